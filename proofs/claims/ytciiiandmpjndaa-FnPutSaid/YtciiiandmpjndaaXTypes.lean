/- The types of the seat's program: a table, checked. -/
import Derived.Test.YtciiiandmpjndaaViZ
import Derived.Test.YtciiiandmpjndaaProg
namespace Go.Proofs.Ytciiiandmpjndaa
open Go Go.Vi
def ti3 : TI := ⟨1, 8, false, [.pv (.int .i64 0)], [], none, some .i64, false, false, true, none⟩
def ti4 : TI := ⟨1, 1, false, [.pv (.bool false)], [], none, none, false, true, true, none⟩
def ti5 : TI := ⟨1, 1, false, [.pv (.int .u8 0)], [], none, some .u8, false, false, true, none⟩
def ti22 : TI := ⟨1, 24, false, [.nil 1], [], some 5, none, false, false, false, none⟩
def ti24 : TI := ⟨1, 24, false, [.nil 9], [], some 30, none, false, false, false, none⟩
def ti25 : TI := ⟨1, 24, false, [.nil 1], [], some 3, none, false, false, false, none⟩
def ti26 : TI := ⟨1, 24, false, [.nil 1], [], some 4, none, false, false, false, none⟩
def ti28 : TI := ⟨6, 80, true, [.pv (.int .i64 0), .pv (.int .i64 0), .pv (.int .i64 0), .nil 1, .nil 1, .pv (.int .i64 0)], [(0, 1), (1, 1), (2, 1), (3, 1), (4, 1), (5, 1)], none, none, false, false, false, none⟩
def ti30 : TI := ⟨9, 104, true, [.pv (.int .i64 0), .pv (.int .i64 0), .pv (.int .i64 0), .pv (.int .i64 0), .pv (.int .i64 0), .pv (.int .i64 0), .nil 1, .nil 1, .pv (.int .i64 0)], [(0, 1), (1, 1), (2, 1), (3, 6)], none, none, false, false, false, none⟩
def ti32 : TI := ⟨17, 184, true, [.nil 9, .pv (.bool false), .pv (.int .i64 0), .pv (.int .i64 0), .pv (.int .i64 0), .pv (.int .i64 0), .pv (.int .i64 0), .pv (.int .i64 0), .nil 1, .nil 1, .pv (.int .i64 0), .pv (.int .i64 0), .pv (.int .i64 0), .pv (.int .i64 0), .pv (.int .i64 0), .pv (.int .i64 0), .pv (.int .i64 0)], [(0, 1), (1, 1), (2, 9), (11, 1), (12, 1), (13, 1), (14, 1), (15, 1), (16, 1)], none, none, false, false, false, none⟩
def ti39 : TI := ⟨1, 24, false, [.nil 8], [], some 44, none, false, false, false, none⟩
def ti40 : TI := ⟨1, 24, false, [.nil 8], [], some 53, none, false, false, false, none⟩
def ti44 : TI := ⟨8, 96, true, [.pv (.int .i64 0), .pv (.int .i64 0), .pv (.int .i64 0), .pv (.int .i64 0), .pv (.int .i64 0), .nil 1, .nil 1, .pv (.int .i64 0)], [(0, 1), (1, 1), (2, 6)], none, none, false, false, false, none⟩
def ti48 : TI := ⟨6, 80, true, [.pv (.int .i64 0), .pv (.int .i64 0), .pv (.int .i64 0), .pv (.int .i64 0), .nil 1, .nil 1], [(0, 1), (1, 1), (2, 1), (3, 1), (4, 1), (5, 1)], none, none, false, false, false, none⟩
def ti53 : TI := ⟨8, 96, true, [.pv (.int .i64 0), .pv (.int .i64 0), .pv (.int .i64 0), .pv (.int .i64 0), .pv (.int .i64 0), .pv (.int .i64 0), .nil 1, .nil 1], [(0, 1), (1, 1), (2, 6)], none, none, false, false, false, none⟩
def ti75 : TI := ⟨3, 40, true, [.nil 1, .pv (.int .i64 0), .pv (.int .i64 0)], [(0, 1), (1, 1), (2, 1)], none, none, false, false, false, none⟩
def ti93 : TI := ⟨2, 16, true, [.pv (.int .i64 0), .pv (.int .i64 0)], [], none, none, false, false, true, some (2, 1)⟩
def tbl : List (Nat × TI) := [(3, ti3), (4, ti4), (5, ti5), (22, ti22), (24, ti24), (25, ti25), (26, ti26), (28, ti28), (30, ti30), (32, ti32), (39, ti39), (40, ti40), (44, ti44), (48, ti48), (53, ti53), (75, ti75), (93, ti93)]
theorem tblOk : tblB Try.prog tbl = true := by kernel_rfl
theorem tg : TGOk Try.prog (lookT tbl) := tgok_of tblOk
def ilist : List Nat := [6, 12, 16, 17, 19, 20, 21, 22, 38, 42, 44, 45, 55, 61, 72, 73, 84]
theorem mixed : Try.prog.follows .mixedOrders = true := by kernel_rfl
theorem dr : DrawOk Try.prog (lookT tbl) false (drawR Try.prog (lookT tbl) false) := drawR_ok tg mixed
theorem drD : DrawOk Try.prog (lookT tbl) true (drawR Try.prog (lookT tbl) true) := drawR_ok tg mixed
end Go.Proofs.Ytciiiandmpjndaa
