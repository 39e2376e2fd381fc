/- The types of the seat's program: a table, checked. -/
import Derived.Test.YtojkaphhgldepaaViZ
import Derived.Test.YtojkaphhgldepaaProg
namespace Go.Proofs.Ytojkaphhgldepaa
open Go Go.Vi
def ti3 : TI := ⟨1, 8, false, [.pv (.int .i64 0)], [], none, some .i64, false, false, true, none⟩
def ti4 : TI := ⟨1, 1, false, [.pv (.bool false)], [], none, none, false, true, true, none⟩
def ti22 : TI := ⟨1, 24, false, [.nil 13], [], some 82, none, false, false, false, none⟩
def ti24 : TI := ⟨2, 32, true, [.pv (.int .i64 0), .nil 13], [(0, 1), (1, 1)], none, none, false, false, false, none⟩
def ti25 : TI := ⟨1, 24, false, [.nil 1], [], some 3, none, false, false, false, none⟩
def ti26 : TI := ⟨1, 24, false, [.nil 1], [], some 4, none, false, false, false, none⟩
def ti28 : TI := ⟨6, 80, true, [.pv (.int .i64 0), .pv (.int .i64 0), .pv (.int .i64 0), .nil 1, .nil 1, .pv (.int .i64 0)], [(0, 1), (1, 1), (2, 1), (3, 1), (4, 1), (5, 1)], none, none, false, false, false, none⟩
def ti29 : TI := ⟨1, 24, false, [.nil 8], [], some 58, none, false, false, false, none⟩
def ti33 : TI := ⟨1, 24, false, [.nil 13], [], some 64, none, false, false, false, none⟩
def ti35 : TI := ⟨2, 32, true, [.pv (.int .i64 0), .nil 13], [(0, 1), (1, 1)], none, none, false, false, false, none⟩
def ti39 : TI := ⟨6, 80, true, [.pv (.int .i64 0), .pv (.int .i64 0), .pv (.int .i64 0), .nil 1, .nil 1, .pv (.int .i64 0)], [(0, 1), (1, 1), (2, 1), (3, 1), (4, 1), (5, 1)], none, none, false, false, false, none⟩
def ti41 : TI := ⟨1, 24, false, [.nil 8], [], some 70, none, false, false, false, none⟩
def ti58 : TI := ⟨8, 96, true, [.pv (.int .i64 0), .pv (.int .i64 0), .pv (.int .i64 0), .pv (.int .i64 0), .pv (.int .i64 0), .nil 1, .nil 1, .pv (.int .i64 0)], [(0, 1), (1, 1), (2, 6)], none, none, false, false, false, none⟩
def ti62 : TI := ⟨1, 24, false, [.nil 6], [], some 88, none, false, false, false, none⟩
def ti64 : TI := ⟨13, 184, true, [.pv (.int .i64 0), .pv (.int .i64 0), .pv (.int .i64 0), .pv (.int .i64 0), .pv (.int .i64 0), .pv (.int .i64 0), .pv (.int .i64 0), .nil 1, .nil 1, .pv (.int .i64 0), .nil 8, .nil 1, .nil 6], [(0, 1), (1, 1), (2, 1), (3, 1), (4, 6), (10, 1), (11, 1), (12, 1)], none, none, false, false, false, none⟩
def ti70 : TI := ⟨8, 96, true, [.pv (.int .i64 0), .pv (.int .i64 0), .pv (.int .i64 0), .pv (.int .i64 0), .pv (.int .i64 0), .nil 1, .nil 1, .pv (.int .i64 0)], [(0, 1), (1, 1), (2, 6)], none, none, false, false, false, none⟩
def ti80 : TI := ⟨1, 24, false, [.nil 6], [], some 111, none, false, false, false, none⟩
def ti82 : TI := ⟨13, 184, true, [.pv (.int .i64 0), .pv (.int .i64 0), .pv (.int .i64 0), .pv (.int .i64 0), .pv (.int .i64 0), .pv (.int .i64 0), .pv (.int .i64 0), .nil 1, .nil 1, .pv (.int .i64 0), .nil 8, .nil 1, .nil 6], [(0, 1), (1, 1), (2, 1), (3, 1), (4, 6), (10, 1), (11, 1), (12, 1)], none, none, false, false, false, none⟩
def ti88 : TI := ⟨6, 80, true, [.pv (.int .i64 0), .pv (.int .i64 0), .pv (.int .i64 0), .pv (.int .i64 0), .nil 1, .nil 1], [(0, 1), (1, 1), (2, 1), (3, 1), (4, 1), (5, 1)], none, none, false, false, false, none⟩
def ti104 : TI := ⟨2, 16, true, [.pv (.int .i64 0), .pv (.int .i64 0)], [], none, none, false, false, true, some (2, 1)⟩
def ti111 : TI := ⟨6, 80, true, [.pv (.int .i64 0), .pv (.int .i64 0), .pv (.int .i64 0), .pv (.int .i64 0), .nil 1, .nil 1], [(0, 1), (1, 1), (2, 1), (3, 1), (4, 1), (5, 1)], none, none, false, false, false, none⟩
def tbl : List (Nat × TI) := [(3, ti3), (4, ti4), (22, ti22), (24, ti24), (25, ti25), (26, ti26), (28, ti28), (29, ti29), (33, ti33), (35, ti35), (39, ti39), (41, ti41), (58, ti58), (62, ti62), (64, ti64), (70, ti70), (80, ti80), (82, ti82), (88, ti88), (104, ti104), (111, ti111)]
theorem tblOk : tblB Try.prog tbl = true := by kernel_rfl
theorem tg : TGOk Try.prog (lookT tbl) := tgok_of tblOk
def ilist : List Nat := []
theorem mixed : Try.prog.follows .mixedOrders = true := by kernel_rfl
theorem dr : DrawOk Try.prog (lookT tbl) false (drawR Try.prog (lookT tbl) false) := drawR_ok tg mixed
theorem drD : DrawOk Try.prog (lookT tbl) true (drawR Try.prog (lookT tbl) true) := drawR_ok tg mixed
end Go.Proofs.Ytojkaphhgldepaa
