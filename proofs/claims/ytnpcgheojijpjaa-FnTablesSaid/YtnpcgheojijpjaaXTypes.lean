/- The types of the seat's program: a table, checked. -/
import Derived.Test.YtnpcgheojijpjaaViZ
import Derived.Test.YtnpcgheojijpjaaProg
namespace Go.Proofs.Ytnpcgheojijpjaa
open Go Go.Vi
def ti3 : TI := ⟨1, 8, false, [.pv (.int .i64 0)], [], none, some .i64, false, false, true, none⟩
def ti4 : TI := ⟨1, 1, false, [.pv (.bool false)], [], none, none, false, true, true, none⟩
def ti5 : TI := ⟨1, 1, false, [.pv (.int .u8 0)], [], none, some .u8, false, false, true, none⟩
def ti22 : TI := ⟨1, 24, false, [.nil 1], [], some 5, none, false, false, false, none⟩
def ti24 : TI := ⟨1, 24, false, [.nil 13], [], some 66, none, false, false, false, none⟩
def ti26 : TI := ⟨2, 32, true, [.pv (.int .i64 0), .nil 13], [(0, 1), (1, 1)], none, none, false, false, false, none⟩
def ti27 : TI := ⟨1, 24, false, [.nil 1], [], some 3, none, false, false, false, none⟩
def ti28 : TI := ⟨1, 24, false, [.nil 1], [], some 4, none, false, false, false, none⟩
def ti30 : TI := ⟨6, 80, true, [.pv (.int .i64 0), .pv (.int .i64 0), .pv (.int .i64 0), .nil 1, .nil 1, .pv (.int .i64 0)], [(0, 1), (1, 1), (2, 1), (3, 1), (4, 1), (5, 1)], none, none, false, false, false, none⟩
def ti31 : TI := ⟨1, 24, false, [.nil 8], [], some 44, none, false, false, false, none⟩
def ti38 : TI := ⟨1, 24, false, [.nil 6], [], some 41, none, false, false, false, none⟩
def ti39 : TI := ⟨1, 24, false, [.nil 16], [], some 49, none, false, false, false, none⟩
def ti41 : TI := ⟨6, 80, true, [.pv (.int .i64 0), .pv (.int .i64 0), .pv (.int .i64 0), .pv (.int .i64 0), .nil 1, .nil 1], [(0, 1), (1, 1), (2, 1), (3, 1), (4, 1), (5, 1)], none, none, false, false, false, none⟩
def ti44 : TI := ⟨8, 96, true, [.pv (.int .i64 0), .pv (.int .i64 0), .pv (.int .i64 0), .pv (.int .i64 0), .pv (.int .i64 0), .nil 1, .nil 1, .pv (.int .i64 0)], [(0, 1), (1, 1), (2, 6)], none, none, false, false, false, none⟩
def ti49 : TI := ⟨16, 224, true, [.pv (.int .i64 0), .pv (.int .i64 0), .pv (.int .i64 0), .pv (.int .i64 0), .pv (.int .i64 0), .nil 1, .nil 1, .pv (.int .i64 0), .nil 8, .nil 6, .pv (.int .i64 0), .pv (.int .i64 0), .pv (.int .i64 0), .pv (.int .i64 0), .nil 1, .nil 1], [(0, 1), (1, 1), (2, 6), (8, 1), (9, 1), (10, 6)], none, none, false, false, false, none⟩
def ti59 : TI := ⟨1, 24, false, [.nil 7], [], some 87, none, false, false, false, none⟩
def ti66 : TI := ⟨13, 184, true, [.pv (.int .i64 0), .pv (.int .i64 0), .pv (.int .i64 0), .pv (.int .i64 0), .pv (.int .i64 0), .pv (.int .i64 0), .pv (.int .i64 0), .nil 1, .nil 1, .pv (.int .i64 0), .nil 8, .nil 1, .nil 6], [(0, 1), (1, 1), (2, 1), (3, 1), (4, 6), (10, 1), (11, 1), (12, 1)], none, none, false, false, false, none⟩
def ti79 : TI := ⟨3, 40, true, [.nil 1, .pv (.int .i64 0), .pv (.int .i64 0)], [(0, 1), (1, 1), (2, 1)], none, none, false, false, false, none⟩
def ti87 : TI := ⟨7, 56, true, [.pv (.int .i64 0), .pv (.int .i64 0), .pv (.int .i64 0), .pv (.int .i64 0), .pv (.int .i64 0), .pv (.int .i64 0), .pv (.int .i64 0)], [(0, 1), (1, 1), (2, 1), (3, 1), (4, 1), (5, 1), (6, 1)], none, none, false, false, true, none⟩
def ti109 : TI := ⟨2, 16, true, [.pv (.int .i64 0), .pv (.int .i64 0)], [], none, none, false, false, true, some (2, 1)⟩
def tbl : List (Nat × TI) := [(3, ti3), (4, ti4), (5, ti5), (22, ti22), (24, ti24), (26, ti26), (27, ti27), (28, ti28), (30, ti30), (31, ti31), (38, ti38), (39, ti39), (41, ti41), (44, ti44), (49, ti49), (59, ti59), (66, ti66), (79, ti79), (87, ti87), (109, ti109)]
theorem tblOk : tblB Try.prog tbl = true := by kernel_rfl
theorem tg : TGOk Try.prog (lookT tbl) := tgok_of tblOk
def ilist : List Nat := [5, 15, 16, 18, 19, 20, 22, 23, 24, 27, 45, 48, 49, 50, 74, 80]
theorem mixed : Try.prog.follows .mixedOrders = true := by kernel_rfl
theorem dr : DrawOk Try.prog (lookT tbl) false (drawR Try.prog (lookT tbl) false) := drawR_ok tg mixed
theorem drD : DrawOk Try.prog (lookT tbl) true (drawR Try.prog (lookT tbl) true) := drawR_ok tg mixed
end Go.Proofs.Ytnpcgheojijpjaa
