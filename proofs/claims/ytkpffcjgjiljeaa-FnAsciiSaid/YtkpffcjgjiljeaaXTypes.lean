/- The types of the seat's program: a table, checked. -/
import Derived.Test.YtkpffcjgjiljeaaViZ
import Derived.Test.YtkpffcjgjiljeaaProg
namespace Go.Proofs.Ytkpffcjgjiljeaa
open Go Go.Vi
def ti3 : TI := ⟨1, 8, false, [.pv (.int .i64 0)], [], none, some .i64, false, false, true, none⟩
def ti4 : TI := ⟨1, 1, false, [.pv (.bool false)], [], none, none, false, true, true, none⟩
def ti5 : TI := ⟨1, 1, false, [.pv (.int .u8 0)], [], none, some .u8, false, false, true, none⟩
def ti9 : TI := ⟨1, 16, false, [.pv (.str ByteArray.empty)], [], none, none, true, false, true, none⟩
def ti22 : TI := ⟨1, 24, false, [.nil 1], [], some 5, none, false, false, false, none⟩
def ti35 : TI := ⟨5, 56, true, [.nil 1, .pv (.int .i64 0), .pv (.bool false), .pv (.int .i64 0), .pv (.int .i64 0)], [(0, 1), (1, 1), (2, 1), (3, 1), (4, 1)], none, none, false, false, false, none⟩
def ti37 : TI := ⟨1, 24, false, [.nil 3], [], some 42, none, false, false, false, none⟩
def ti42 : TI := ⟨3, 40, true, [.pv (.int .i64 0), .pv (.int .i64 0), .nil 1], [(0, 1), (1, 1), (2, 1)], none, none, false, false, false, none⟩
def ti45 : TI := ⟨1, 8, false, [.pv (.int .u64 0)], [], none, some .u64, false, false, true, none⟩
def ti50 : TI := ⟨2, 32, true, [.nil 1, .pv (.bool false)], [(0, 1), (1, 1)], none, none, false, false, false, none⟩
def ti51 : TI := ⟨1, 24, false, [.nil 3], [], some 80, none, false, false, false, none⟩
def ti57 : TI := ⟨4, 48, true, [.nil 1, .pv (.bool false), .pv (.int .i64 0), .pv (.int .i64 0)], [(0, 1), (1, 1), (2, 1), (3, 1)], none, none, false, false, false, none⟩
def ti65 : TI := ⟨1, 24, false, [.nil 1], [], some 3, none, false, false, false, none⟩
def ti80 : TI := ⟨3, 40, true, [.pv (.int .i64 0), .pv (.int .i64 0), .nil 1], [(0, 1), (1, 1), (2, 1)], none, none, false, false, false, none⟩
def ti86 : TI := ⟨3, 40, true, [.nil 1, .pv (.int .i64 0), .pv (.int .i64 0)], [(0, 1), (1, 1), (2, 1)], none, none, false, false, false, none⟩
def ti88 : TI := ⟨1, 24, false, [.nil 1], [], some 22, none, false, false, false, none⟩
def ti91 : TI := ⟨1, 24, false, [.nil 1], [], some 4, none, false, false, false, none⟩
def ti93 : TI := ⟨6, 80, true, [.pv (.int .i64 0), .pv (.int .i64 0), .pv (.int .i64 0), .nil 1, .nil 1, .pv (.int .i64 0)], [(0, 1), (1, 1), (2, 1), (3, 1), (4, 1), (5, 1)], none, none, false, false, false, none⟩
def tbl : List (Nat × TI) := [(3, ti3), (4, ti4), (5, ti5), (9, ti9), (22, ti22), (35, ti35), (37, ti37), (42, ti42), (45, ti45), (50, ti50), (51, ti51), (57, ti57), (65, ti65), (80, ti80), (86, ti86), (88, ti88), (91, ti91), (93, ti93)]
theorem tblOk : tblB Try.prog tbl = true := by kernel_rfl
theorem tg : TGOk Try.prog (lookT tbl) := tgok_of tblOk
def ilist : List Nat := [9, 15, 24, 34, 35, 36, 47, 48, 54, 59, 60, 62, 63, 64, 66, 67, 68, 69, 75, 77, 78, 79]
theorem mixed : Try.prog.follows .mixedOrders = true := by kernel_rfl
theorem dr : DrawOk Try.prog (lookT tbl) false (drawR Try.prog (lookT tbl) false) := drawR_ok tg mixed
theorem drD : DrawOk Try.prog (lookT tbl) true (drawR Try.prog (lookT tbl) true) := drawR_ok tg mixed
end Go.Proofs.Ytkpffcjgjiljeaa
