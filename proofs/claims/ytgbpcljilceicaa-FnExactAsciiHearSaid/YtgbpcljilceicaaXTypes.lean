/- The types of the seat's program: a table, checked. -/
import Derived.Test.YtgbpcljilceicaaViZ
import Derived.Test.YtgbpcljilceicaaProg
namespace Go.Proofs.Ytgbpcljilceicaa
open Go Go.Vi
def ti3 : TI := ⟨1, 8, false, [.pv (.int .i64 0)], [], none, some .i64, false, false, true, none⟩
def ti4 : TI := ⟨1, 1, false, [.pv (.bool false)], [], none, none, false, true, true, none⟩
def ti5 : TI := ⟨1, 1, false, [.pv (.int .u8 0)], [], none, some .u8, false, false, true, none⟩
def ti9 : TI := ⟨1, 16, false, [.pv (.str ByteArray.empty)], [], none, none, true, false, true, none⟩
def ti22 : TI := ⟨1, 24, false, [.nil 1], [], some 5, none, false, false, false, none⟩
def ti24 : TI := ⟨5, 56, true, [.nil 1, .pv (.int .i64 0), .pv (.bool false), .pv (.int .i64 0), .pv (.int .i64 0)], [(0, 1), (1, 1), (2, 1), (3, 1), (4, 1)], none, none, false, false, false, none⟩
def ti26 : TI := ⟨4, 48, true, [.nil 1, .pv (.bool false), .pv (.int .i64 0), .pv (.int .i64 0)], [(0, 1), (1, 1), (2, 1), (3, 1)], none, none, false, false, false, none⟩
def ti28 : TI := ⟨2, 32, true, [.nil 1, .pv (.bool false)], [(0, 1), (1, 1)], none, none, false, false, false, none⟩
def ti30 : TI := ⟨13, 152, true, [.pv (.int .i64 0), .nil 1, .pv (.int .i64 0), .pv (.bool false), .pv (.int .i64 0), .pv (.int .i64 0), .nil 1, .pv (.bool false), .pv (.int .i64 0), .pv (.int .i64 0), .nil 1, .pv (.bool false), .pv (.int .i64 0)], [(0, 1), (1, 5), (6, 4), (10, 2), (12, 1)], none, none, false, false, false, none⟩
def ti33 : TI := ⟨5, 56, true, [.nil 1, .pv (.int .i64 0), .pv (.bool false), .pv (.int .i64 0), .pv (.int .i64 0)], [(0, 1), (1, 1), (2, 1), (3, 1), (4, 1)], none, none, false, false, false, none⟩
def ti34 : TI := ⟨4, 48, true, [.nil 1, .pv (.bool false), .pv (.int .i64 0), .pv (.int .i64 0)], [(0, 1), (1, 1), (2, 1), (3, 1)], none, none, false, false, false, none⟩
def ti35 : TI := ⟨2, 32, true, [.nil 1, .pv (.bool false)], [(0, 1), (1, 1)], none, none, false, false, false, none⟩
def ti37 : TI := ⟨13, 152, true, [.pv (.int .i64 0), .nil 1, .pv (.int .i64 0), .pv (.bool false), .pv (.int .i64 0), .pv (.int .i64 0), .nil 1, .pv (.bool false), .pv (.int .i64 0), .pv (.int .i64 0), .nil 1, .pv (.bool false), .pv (.int .i64 0)], [(0, 1), (1, 5), (6, 4), (10, 2), (12, 1)], none, none, false, false, false, none⟩
def ti45 : TI := ⟨1, 24, false, [.nil 3], [], some 107, none, false, false, false, none⟩
def ti57 : TI := ⟨1, 24, false, [.nil 9], [], some 63, none, false, false, false, none⟩
def ti58 : TI := ⟨1, 24, false, [.nil 1], [], some 3, none, false, false, false, none⟩
def ti59 : TI := ⟨1, 24, false, [.nil 1], [], some 4, none, false, false, false, none⟩
def ti61 : TI := ⟨6, 80, true, [.pv (.int .i64 0), .pv (.int .i64 0), .pv (.int .i64 0), .nil 1, .nil 1, .pv (.int .i64 0)], [(0, 1), (1, 1), (2, 1), (3, 1), (4, 1), (5, 1)], none, none, false, false, false, none⟩
def ti63 : TI := ⟨9, 104, true, [.pv (.int .i64 0), .pv (.int .i64 0), .pv (.int .i64 0), .pv (.int .i64 0), .pv (.int .i64 0), .pv (.int .i64 0), .nil 1, .nil 1, .pv (.int .i64 0)], [(0, 1), (1, 1), (2, 1), (3, 6)], none, none, false, false, false, none⟩
def ti65 : TI := ⟨17, 184, true, [.nil 9, .pv (.bool false), .pv (.int .i64 0), .pv (.int .i64 0), .pv (.int .i64 0), .pv (.int .i64 0), .pv (.int .i64 0), .pv (.int .i64 0), .nil 1, .nil 1, .pv (.int .i64 0), .pv (.int .i64 0), .pv (.int .i64 0), .pv (.int .i64 0), .pv (.int .i64 0), .pv (.int .i64 0), .pv (.int .i64 0)], [(0, 1), (1, 1), (2, 9), (11, 1), (12, 1), (13, 1), (14, 1), (15, 1), (16, 1)], none, none, false, false, false, none⟩
def ti70 : TI := ⟨1, 24, false, [.nil 3], [], some 118, none, false, false, false, none⟩
def ti88 : TI := ⟨1, 24, false, [.nil 9], [], some 91, none, false, false, false, none⟩
def ti89 : TI := ⟨6, 80, true, [.pv (.int .i64 0), .pv (.int .i64 0), .pv (.int .i64 0), .nil 1, .nil 1, .pv (.int .i64 0)], [(0, 1), (1, 1), (2, 1), (3, 1), (4, 1), (5, 1)], none, none, false, false, false, none⟩
def ti91 : TI := ⟨9, 104, true, [.pv (.int .i64 0), .pv (.int .i64 0), .pv (.int .i64 0), .pv (.int .i64 0), .pv (.int .i64 0), .pv (.int .i64 0), .nil 1, .nil 1, .pv (.int .i64 0)], [(0, 1), (1, 1), (2, 1), (3, 6)], none, none, false, false, false, none⟩
def ti93 : TI := ⟨17, 184, true, [.nil 9, .pv (.bool false), .pv (.int .i64 0), .pv (.int .i64 0), .pv (.int .i64 0), .pv (.int .i64 0), .pv (.int .i64 0), .pv (.int .i64 0), .nil 1, .nil 1, .pv (.int .i64 0), .pv (.int .i64 0), .pv (.int .i64 0), .pv (.int .i64 0), .pv (.int .i64 0), .pv (.int .i64 0), .pv (.int .i64 0)], [(0, 1), (1, 1), (2, 9), (11, 1), (12, 1), (13, 1), (14, 1), (15, 1), (16, 1)], none, none, false, false, false, none⟩
def ti107 : TI := ⟨3, 40, true, [.pv (.int .i64 0), .pv (.int .i64 0), .nil 1], [(0, 1), (1, 1), (2, 1)], none, none, false, false, false, none⟩
def ti118 : TI := ⟨3, 40, true, [.pv (.int .i64 0), .pv (.int .i64 0), .nil 1], [(0, 1), (1, 1), (2, 1)], none, none, false, false, false, none⟩
def ti129 : TI := ⟨1, 24, false, [.nil 1], [], some 22, none, false, false, false, none⟩
def ti153 : TI := ⟨2, 16, true, [.pv (.int .i64 0), .pv (.int .i64 0)], [], none, none, false, false, true, some (2, 1)⟩
def tbl : List (Nat × TI) := [(3, ti3), (4, ti4), (5, ti5), (9, ti9), (22, ti22), (24, ti24), (26, ti26), (28, ti28), (30, ti30), (33, ti33), (34, ti34), (35, ti35), (37, ti37), (45, ti45), (57, ti57), (58, ti58), (59, ti59), (61, ti61), (63, ti63), (65, ti65), (70, ti70), (88, ti88), (89, ti89), (91, ti91), (93, ti93), (107, ti107), (118, ti118), (129, ti129), (153, ti153)]
theorem tblOk : tblB Try.prog tbl = true := by kernel_rfl
theorem tg : TGOk Try.prog (lookT tbl) := tgok_of tblOk
def ilist : List Nat := [103, 115, 128, 129]
theorem mixed : Try.prog.follows .mixedOrders = true := by kernel_rfl
theorem dr : DrawOk Try.prog (lookT tbl) false (drawR Try.prog (lookT tbl) false) := drawR_ok tg mixed
theorem drD : DrawOk Try.prog (lookT tbl) true (drawR Try.prog (lookT tbl) true) := drawR_ok tg mixed
end Go.Proofs.Ytgbpcljilceicaa
