/- The types of the seat's program: a table, checked. -/
import Derived.Test.YtieenbofbfkhpaaViZ
import Derived.Test.YtieenbofbfkhpaaProg
namespace Go.Proofs.Ytieenbofbfkhpaa
open Go Go.Vi
def ti3 : TI := ⟨1, 8, false, [.pv (.int .i64 0)], [], none, some .i64, false, false, true, none⟩
def ti4 : TI := ⟨1, 1, false, [.pv (.bool false)], [], none, none, false, true, true, none⟩
def ti22 : TI := ⟨1, 24, false, [.nil 9], [], some 28, none, false, false, false, none⟩
def ti23 : TI := ⟨1, 24, false, [.nil 1], [], some 3, none, false, false, false, none⟩
def ti24 : TI := ⟨1, 24, false, [.nil 1], [], some 4, none, false, false, false, none⟩
def ti26 : TI := ⟨6, 80, true, [.pv (.int .i64 0), .pv (.int .i64 0), .pv (.int .i64 0), .nil 1, .nil 1, .pv (.int .i64 0)], [(0, 1), (1, 1), (2, 1), (3, 1), (4, 1), (5, 1)], none, none, false, false, false, none⟩
def ti28 : TI := ⟨9, 104, true, [.pv (.int .i64 0), .pv (.int .i64 0), .pv (.int .i64 0), .pv (.int .i64 0), .pv (.int .i64 0), .pv (.int .i64 0), .nil 1, .nil 1, .pv (.int .i64 0)], [(0, 1), (1, 1), (2, 1), (3, 6)], none, none, false, false, false, none⟩
def ti30 : TI := ⟨17, 184, true, [.nil 9, .pv (.bool false), .pv (.int .i64 0), .pv (.int .i64 0), .pv (.int .i64 0), .pv (.int .i64 0), .pv (.int .i64 0), .pv (.int .i64 0), .nil 1, .nil 1, .pv (.int .i64 0), .pv (.int .i64 0), .pv (.int .i64 0), .pv (.int .i64 0), .pv (.int .i64 0), .pv (.int .i64 0), .pv (.int .i64 0)], [(0, 1), (1, 1), (2, 9), (11, 1), (12, 1), (13, 1), (14, 1), (15, 1), (16, 1)], none, none, false, false, false, none⟩
def ti33 : TI := ⟨1, 24, false, [.nil 9], [], some 36, none, false, false, false, none⟩
def ti34 : TI := ⟨6, 80, true, [.pv (.int .i64 0), .pv (.int .i64 0), .pv (.int .i64 0), .nil 1, .nil 1, .pv (.int .i64 0)], [(0, 1), (1, 1), (2, 1), (3, 1), (4, 1), (5, 1)], none, none, false, false, false, none⟩
def ti36 : TI := ⟨9, 104, true, [.pv (.int .i64 0), .pv (.int .i64 0), .pv (.int .i64 0), .pv (.int .i64 0), .pv (.int .i64 0), .pv (.int .i64 0), .nil 1, .nil 1, .pv (.int .i64 0)], [(0, 1), (1, 1), (2, 1), (3, 6)], none, none, false, false, false, none⟩
def ti38 : TI := ⟨17, 184, true, [.nil 9, .pv (.bool false), .pv (.int .i64 0), .pv (.int .i64 0), .pv (.int .i64 0), .pv (.int .i64 0), .pv (.int .i64 0), .pv (.int .i64 0), .nil 1, .nil 1, .pv (.int .i64 0), .pv (.int .i64 0), .pv (.int .i64 0), .pv (.int .i64 0), .pv (.int .i64 0), .pv (.int .i64 0), .pv (.int .i64 0)], [(0, 1), (1, 1), (2, 9), (11, 1), (12, 1), (13, 1), (14, 1), (15, 1), (16, 1)], none, none, false, false, false, none⟩
def ti49 : TI := ⟨6, 80, true, [.pv (.int .i64 0), .pv (.int .i64 0), .pv (.int .i64 0), .pv (.int .i64 0), .nil 1, .nil 1], [(0, 1), (1, 1), (2, 1), (3, 1), (4, 1), (5, 1)], none, none, false, false, false, none⟩
def ti51 : TI := ⟨1, 24, false, [.nil 8], [], some 84, none, false, false, false, none⟩
def ti54 : TI := ⟨6, 80, true, [.pv (.int .i64 0), .pv (.int .i64 0), .pv (.int .i64 0), .pv (.int .i64 0), .nil 1, .nil 1], [(0, 1), (1, 1), (2, 1), (3, 1), (4, 1), (5, 1)], none, none, false, false, false, none⟩
def ti61 : TI := ⟨1, 24, false, [.nil 8], [], some 94, none, false, false, false, none⟩
def ti84 : TI := ⟨8, 96, true, [.pv (.int .i64 0), .pv (.int .i64 0), .pv (.int .i64 0), .pv (.int .i64 0), .pv (.int .i64 0), .pv (.int .i64 0), .nil 1, .nil 1], [(0, 1), (1, 1), (2, 6)], none, none, false, false, false, none⟩
def ti94 : TI := ⟨8, 96, true, [.pv (.int .i64 0), .pv (.int .i64 0), .pv (.int .i64 0), .pv (.int .i64 0), .pv (.int .i64 0), .nil 1, .nil 1, .pv (.int .i64 0)], [(0, 1), (1, 1), (2, 6)], none, none, false, false, false, none⟩
def ti108 : TI := ⟨2, 16, true, [.pv (.int .i64 0), .pv (.int .i64 0)], [], none, none, false, false, true, some (2, 1)⟩
def tbl : List (Nat × TI) := [(3, ti3), (4, ti4), (22, ti22), (23, ti23), (24, ti24), (26, ti26), (28, ti28), (30, ti30), (33, ti33), (34, ti34), (36, ti36), (38, ti38), (49, ti49), (51, ti51), (54, ti54), (61, ti61), (84, ti84), (94, ti94), (108, ti108)]
theorem tblOk : tblB Try.prog tbl = true := by kernel_rfl
theorem tg : TGOk Try.prog (lookT tbl) := tgok_of tblOk
def ilist : List Nat := [57, 99]
theorem mixed : Try.prog.follows .mixedOrders = true := by kernel_rfl
theorem dr : DrawOk Try.prog (lookT tbl) false (drawR Try.prog (lookT tbl) false) := drawR_ok tg mixed
theorem drD : DrawOk Try.prog (lookT tbl) true (drawR Try.prog (lookT tbl) true) := drawR_ok tg mixed
end Go.Proofs.Ytieenbofbfkhpaa
