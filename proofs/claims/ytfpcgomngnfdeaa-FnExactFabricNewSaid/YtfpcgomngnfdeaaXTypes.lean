/- The types of the seat's program: a table, checked. -/
import Derived.Test.YtfpcgomngnfdeaaViZ
import Derived.Test.YtfpcgomngnfdeaaProg
namespace Go.Proofs.Ytfpcgomngnfdeaa
open Go Go.Vi
def ti3 : TI := ⟨1, 8, false, [.pv (.int .i64 0)], [], none, some .i64, false, false, true, none⟩
def ti4 : TI := ⟨1, 1, false, [.pv (.bool false)], [], none, none, false, true, true, none⟩
def ti22 : TI := ⟨1, 24, false, [.nil 7], [], some 67, none, false, false, false, none⟩
def ti24 : TI := ⟨3, 40, true, [.pv (.int .i64 0), .pv (.int .i64 0), .nil 7], [(0, 1), (1, 1), (2, 1)], none, none, false, false, false, none⟩
def ti26 : TI := ⟨1, 24, false, [.nil 7], [], some 65, none, false, false, false, none⟩
def ti28 : TI := ⟨3, 40, true, [.pv (.int .i64 0), .pv (.int .i64 0), .nil 7], [(0, 1), (1, 1), (2, 1)], none, none, false, false, false, none⟩
def ti29 : TI := ⟨1, 24, false, [.nil 13], [], some 83, none, false, false, false, none⟩
def ti31 : TI := ⟨2, 32, true, [.pv (.int .i64 0), .nil 13], [(0, 1), (1, 1)], none, none, false, false, false, none⟩
def ti32 : TI := ⟨1, 24, false, [.nil 17], [], some 52, none, false, false, false, none⟩
def ti34 : TI := ⟨11, 136, true, [.pv (.int .i64 0), .pv (.int .i64 0), .pv (.int .i64 0), .nil 7, .pv (.int .i64 0), .nil 13, .nil 17, .pv (.int .i64 0), .pv (.int .i64 0), .pv (.int .i64 0), .pv (.int .i64 0)], [(0, 1), (1, 3), (4, 2), (6, 1), (7, 1), (8, 1), (9, 1), (10, 1)], none, none, false, false, false, none⟩
def ti44 : TI := ⟨1, 24, false, [.nil 9], [], some 50, none, false, false, false, none⟩
def ti45 : TI := ⟨1, 24, false, [.nil 1], [], some 3, none, false, false, false, none⟩
def ti46 : TI := ⟨1, 24, false, [.nil 1], [], some 4, none, false, false, false, none⟩
def ti48 : TI := ⟨6, 80, true, [.pv (.int .i64 0), .pv (.int .i64 0), .pv (.int .i64 0), .nil 1, .nil 1, .pv (.int .i64 0)], [(0, 1), (1, 1), (2, 1), (3, 1), (4, 1), (5, 1)], none, none, false, false, false, none⟩
def ti50 : TI := ⟨9, 104, true, [.pv (.int .i64 0), .pv (.int .i64 0), .pv (.int .i64 0), .pv (.int .i64 0), .pv (.int .i64 0), .pv (.int .i64 0), .nil 1, .nil 1, .pv (.int .i64 0)], [(0, 1), (1, 1), (2, 1), (3, 6)], none, none, false, false, false, none⟩
def ti52 : TI := ⟨17, 184, true, [.nil 9, .pv (.bool false), .pv (.int .i64 0), .pv (.int .i64 0), .pv (.int .i64 0), .pv (.int .i64 0), .pv (.int .i64 0), .pv (.int .i64 0), .nil 1, .nil 1, .pv (.int .i64 0), .pv (.int .i64 0), .pv (.int .i64 0), .pv (.int .i64 0), .pv (.int .i64 0), .pv (.int .i64 0), .pv (.int .i64 0)], [(0, 1), (1, 1), (2, 9), (11, 1), (12, 1), (13, 1), (14, 1), (15, 1), (16, 1)], none, none, false, false, false, none⟩
def ti65 : TI := ⟨7, 56, true, [.pv (.int .i64 0), .pv (.int .i64 0), .pv (.int .i64 0), .pv (.int .i64 0), .pv (.int .i64 0), .pv (.int .i64 0), .pv (.int .i64 0)], [(0, 1), (1, 1), (2, 1), (3, 1), (4, 1), (5, 1), (6, 1)], none, none, false, false, true, none⟩
def ti67 : TI := ⟨7, 56, true, [.pv (.int .i64 0), .pv (.int .i64 0), .pv (.int .i64 0), .pv (.int .i64 0), .pv (.int .i64 0), .pv (.int .i64 0), .pv (.int .i64 0)], [(0, 1), (1, 1), (2, 1), (3, 1), (4, 1), (5, 1), (6, 1)], none, none, false, false, true, none⟩
def ti80 : TI := ⟨1, 24, false, [.nil 8], [], some 95, none, false, false, false, none⟩
def ti81 : TI := ⟨1, 24, false, [.nil 6], [], some 97, none, false, false, false, none⟩
def ti83 : TI := ⟨13, 184, true, [.pv (.int .i64 0), .pv (.int .i64 0), .pv (.int .i64 0), .pv (.int .i64 0), .pv (.int .i64 0), .pv (.int .i64 0), .pv (.int .i64 0), .nil 1, .nil 1, .pv (.int .i64 0), .nil 8, .nil 1, .nil 6], [(0, 1), (1, 1), (2, 1), (3, 1), (4, 6), (10, 1), (11, 1), (12, 1)], none, none, false, false, false, none⟩
def ti95 : TI := ⟨8, 96, true, [.pv (.int .i64 0), .pv (.int .i64 0), .pv (.int .i64 0), .pv (.int .i64 0), .pv (.int .i64 0), .nil 1, .nil 1, .pv (.int .i64 0)], [(0, 1), (1, 1), (2, 6)], none, none, false, false, false, none⟩
def ti97 : TI := ⟨6, 80, true, [.pv (.int .i64 0), .pv (.int .i64 0), .pv (.int .i64 0), .pv (.int .i64 0), .nil 1, .nil 1], [(0, 1), (1, 1), (2, 1), (3, 1), (4, 1), (5, 1)], none, none, false, false, false, none⟩
def tbl : List (Nat × TI) := [(3, ti3), (4, ti4), (22, ti22), (24, ti24), (26, ti26), (28, ti28), (29, ti29), (31, ti31), (32, ti32), (34, ti34), (44, ti44), (45, ti45), (46, ti46), (48, ti48), (50, ti50), (52, ti52), (65, ti65), (67, ti67), (80, ti80), (81, ti81), (83, ti83), (95, ti95), (97, ti97)]
theorem tblOk : tblB Try.prog tbl = true := by kernel_rfl
theorem tg : TGOk Try.prog (lookT tbl) := tgok_of tblOk
def ilist : List Nat := []
theorem mixed : Try.prog.follows .mixedOrders = true := by kernel_rfl
theorem dr : DrawOk Try.prog (lookT tbl) false (drawR Try.prog (lookT tbl) false) := drawR_ok tg mixed
theorem drD : DrawOk Try.prog (lookT tbl) true (drawR Try.prog (lookT tbl) true) := drawR_ok tg mixed
end Go.Proofs.Ytfpcgomngnfdeaa
