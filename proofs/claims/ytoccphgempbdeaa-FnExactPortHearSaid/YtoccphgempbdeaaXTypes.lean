/- The types of the seat's program: a table, checked. -/
import Derived.Test.YtoccphgempbdeaaViZ
import Derived.Test.YtoccphgempbdeaaProg
namespace Go.Proofs.Ytoccphgempbdeaa
open Go Go.Vi
def ti3 : TI := ⟨1, 8, false, [.pv (.int .i64 0)], [], none, some .i64, false, false, true, none⟩
def ti4 : TI := ⟨1, 1, false, [.pv (.bool false)], [], none, none, false, true, true, none⟩
def ti5 : TI := ⟨1, 1, false, [.pv (.int .u8 0)], [], none, some .u8, false, false, true, none⟩
def ti9 : TI := ⟨1, 16, false, [.pv (.str ByteArray.empty)], [], none, none, true, false, true, none⟩
def ti22 : TI := ⟨1, 24, false, [.nil 1], [], some 5, none, false, false, false, none⟩
def ti24 : TI := ⟨5, 56, true, [.nil 1, .pv (.int .i64 0), .pv (.bool false), .pv (.int .i64 0), .pv (.int .i64 0)], [(0, 1), (1, 1), (2, 1), (3, 1), (4, 1)], none, none, false, false, false, none⟩
def ti26 : TI := ⟨4, 48, true, [.nil 1, .pv (.bool false), .pv (.int .i64 0), .pv (.int .i64 0)], [(0, 1), (1, 1), (2, 1), (3, 1)], none, none, false, false, false, none⟩
def ti28 : TI := ⟨2, 32, true, [.nil 1, .pv (.bool false)], [(0, 1), (1, 1)], none, none, false, false, false, none⟩
def ti30 : TI := ⟨13, 152, true, [.pv (.int .i64 0), .nil 1, .pv (.int .i64 0), .pv (.bool false), .pv (.int .i64 0), .pv (.int .i64 0), .nil 1, .pv (.bool false), .pv (.int .i64 0), .pv (.int .i64 0), .nil 1, .pv (.bool false), .pv (.int .i64 0)], [(0, 1), (1, 5), (6, 4), (10, 2), (12, 1)], none, none, false, false, false, none⟩
def ti32 : TI := ⟨3, 40, true, [.pv (.int .i64 0), .pv (.int .i64 0), .nil 1], [(0, 1), (1, 1), (2, 1)], none, none, false, false, false, none⟩
def ti36 : TI := ⟨5, 56, true, [.nil 1, .pv (.int .i64 0), .pv (.bool false), .pv (.int .i64 0), .pv (.int .i64 0)], [(0, 1), (1, 1), (2, 1), (3, 1), (4, 1)], none, none, false, false, false, none⟩
def ti37 : TI := ⟨4, 48, true, [.nil 1, .pv (.bool false), .pv (.int .i64 0), .pv (.int .i64 0)], [(0, 1), (1, 1), (2, 1), (3, 1)], none, none, false, false, false, none⟩
def ti38 : TI := ⟨2, 32, true, [.nil 1, .pv (.bool false)], [(0, 1), (1, 1)], none, none, false, false, false, none⟩
def ti40 : TI := ⟨13, 152, true, [.pv (.int .i64 0), .nil 1, .pv (.int .i64 0), .pv (.bool false), .pv (.int .i64 0), .pv (.int .i64 0), .nil 1, .pv (.bool false), .pv (.int .i64 0), .pv (.int .i64 0), .nil 1, .pv (.bool false), .pv (.int .i64 0)], [(0, 1), (1, 5), (6, 4), (10, 2), (12, 1)], none, none, false, false, false, none⟩
def ti42 : TI := ⟨3, 40, true, [.pv (.int .i64 0), .pv (.int .i64 0), .nil 1], [(0, 1), (1, 1), (2, 1)], none, none, false, false, false, none⟩
def ti51 : TI := ⟨1, 24, false, [.nil 3], [], some 42, none, false, false, false, none⟩
def ti77 : TI := ⟨1, 24, false, [.nil 3], [], some 102, none, false, false, false, none⟩
def ti102 : TI := ⟨3, 40, true, [.pv (.int .i64 0), .pv (.int .i64 0), .nil 1], [(0, 1), (1, 1), (2, 1)], none, none, false, false, false, none⟩
def ti105 : TI := ⟨1, 24, false, [.nil 1], [], some 22, none, false, false, false, none⟩
def ti106 : TI := ⟨1, 24, false, [.nil 1], [], some 3, none, false, false, false, none⟩
def tbl : List (Nat × TI) := [(3, ti3), (4, ti4), (5, ti5), (9, ti9), (22, ti22), (24, ti24), (26, ti26), (28, ti28), (30, ti30), (32, ti32), (36, ti36), (37, ti37), (38, ti38), (40, ti40), (42, ti42), (51, ti51), (77, ti77), (102, ti102), (105, ti105), (106, ti106)]
theorem tblOk : tblB Try.prog tbl = true := by kernel_rfl
theorem tg : TGOk Try.prog (lookT tbl) := tgok_of tblOk
def ilist : List Nat := [51, 57, 97, 99, 106, 107]
theorem mixed : Try.prog.follows .mixedOrders = true := by kernel_rfl
theorem dr : DrawOk Try.prog (lookT tbl) false (drawR Try.prog (lookT tbl) false) := drawR_ok tg mixed
theorem drD : DrawOk Try.prog (lookT tbl) true (drawR Try.prog (lookT tbl) true) := drawR_ok tg mixed
end Go.Proofs.Ytoccphgempbdeaa
