/- The types of the seat's program: a table, checked. -/
import Derived.Test.YtjjfjeoajhdlcaaViZ
import Derived.Test.YtjjfjeoajhdlcaaProg
namespace Go.Proofs.Ytjjfjeoajhdlcaa
open Go Go.Vi
def ti3 : TI := ⟨1, 8, false, [.pv (.int .i64 0)], [], none, some .i64, false, false, true, none⟩
def ti4 : TI := ⟨1, 1, false, [.pv (.bool false)], [], none, none, false, true, true, none⟩
def ti5 : TI := ⟨1, 1, false, [.pv (.int .u8 0)], [], none, some .u8, false, false, true, none⟩
def ti9 : TI := ⟨1, 16, false, [.pv (.str ByteArray.empty)], [], none, none, true, false, true, none⟩
def ti22 : TI := ⟨1, 24, false, [.nil 1], [], some 5, none, false, false, false, none⟩
def ti24 : TI := ⟨2, 32, true, [.nil 1, .pv (.bool false)], [(0, 1), (1, 1)], none, none, false, false, false, none⟩
def ti27 : TI := ⟨2, 32, true, [.nil 1, .pv (.bool false)], [(0, 1), (1, 1)], none, none, false, false, false, none⟩
def ti32 : TI := ⟨4, 48, true, [.nil 1, .pv (.bool false), .pv (.int .i64 0), .pv (.int .i64 0)], [(0, 1), (1, 1), (2, 1), (3, 1)], none, none, false, false, false, none⟩
def ti35 : TI := ⟨4, 48, true, [.nil 1, .pv (.bool false), .pv (.int .i64 0), .pv (.int .i64 0)], [(0, 1), (1, 1), (2, 1), (3, 1)], none, none, false, false, false, none⟩
def ti42 : TI := ⟨1, 24, false, [.nil 7], [], some 76, none, false, false, false, none⟩
def ti45 : TI := ⟨1, 24, false, [.nil 7], [], some 74, none, false, false, false, none⟩
def ti64 : TI := ⟨3, 40, true, [.pv (.int .i64 0), .pv (.int .i64 0), .nil 7], [(0, 1), (1, 1), (2, 1)], none, none, false, false, false, none⟩
def ti68 : TI := ⟨3, 40, true, [.pv (.int .i64 0), .pv (.int .i64 0), .nil 7], [(0, 1), (1, 1), (2, 1)], none, none, false, false, false, none⟩
def ti74 : TI := ⟨7, 56, true, [.pv (.int .i64 0), .pv (.int .i64 0), .pv (.int .i64 0), .pv (.int .i64 0), .pv (.int .i64 0), .pv (.int .i64 0), .pv (.int .i64 0)], [(0, 1), (1, 1), (2, 1), (3, 1), (4, 1), (5, 1), (6, 1)], none, none, false, false, true, none⟩
def ti76 : TI := ⟨7, 56, true, [.pv (.int .i64 0), .pv (.int .i64 0), .pv (.int .i64 0), .pv (.int .i64 0), .pv (.int .i64 0), .pv (.int .i64 0), .pv (.int .i64 0)], [(0, 1), (1, 1), (2, 1), (3, 1), (4, 1), (5, 1), (6, 1)], none, none, false, false, true, none⟩
def ti93 : TI := ⟨1, 24, false, [.nil 1], [], some 22, none, false, false, false, none⟩
def ti94 : TI := ⟨1, 24, false, [.nil 1], [], some 3, none, false, false, false, none⟩
def tbl : List (Nat × TI) := [(3, ti3), (4, ti4), (5, ti5), (9, ti9), (22, ti22), (24, ti24), (27, ti27), (32, ti32), (35, ti35), (42, ti42), (45, ti45), (64, ti64), (68, ti68), (74, ti74), (76, ti76), (93, ti93), (94, ti94)]
theorem tblOk : tblB Try.prog tbl = true := by kernel_rfl
theorem tg : TGOk Try.prog (lookT tbl) := tgok_of tblOk
def ilist : List Nat := [87, 88, 90]
theorem mixed : Try.prog.follows .mixedOrders = true := by kernel_rfl
theorem dr : DrawOk Try.prog (lookT tbl) false (drawR Try.prog (lookT tbl) false) := drawR_ok tg mixed
theorem drD : DrawOk Try.prog (lookT tbl) true (drawR Try.prog (lookT tbl) true) := drawR_ok tg mixed
end Go.Proofs.Ytjjfjeoajhdlcaa
