/- The types of the seat's program: a table, checked. -/
import Derived.Test.YtfpcgomngnfdeaaDoorViZ
import Derived.Test.YtfpcgomngnfdeaaDoorProg
namespace Go.Proofs.YtfpcgomngnfdeaaDoor
open Go Go.Vi
def ti2 : TI := ⟨1, 8, false, [.pv (.int .i64 0)], [], none, some .i64, false, false, true, none⟩
def ti3 : TI := ⟨1, 8, false, [.pv (.int .i64 0)], [], none, some .i64, false, false, true, none⟩
def ti4 : TI := ⟨1, 1, false, [.pv (.bool false)], [], none, none, false, true, true, none⟩
def ti5 : TI := ⟨1, 1, false, [.pv (.int .u8 0)], [], none, some .u8, false, false, true, none⟩
def ti9 : TI := ⟨1, 16, false, [.pv (.str ByteArray.empty)], [], none, none, true, false, true, none⟩
def ti21 : TI := ⟨1, 4, false, [.pv (.int .i32 0)], [], none, some .i32, false, false, true, none⟩
def ti22 : TI := ⟨1, 24, false, [.nil 7], [], some 42, none, false, false, false, none⟩
def ti24 : TI := ⟨3, 40, true, [.pv (.int .i64 0), .pv (.int .i64 0), .nil 7], [(0, 1), (1, 1), (2, 1)], none, none, false, false, false, none⟩
def ti30 : TI := ⟨1, 24, false, [.nil 7], [], some 71, none, false, false, false, none⟩
def ti32 : TI := ⟨3, 40, true, [.pv (.int .i64 0), .pv (.int .i64 0), .nil 7], [(0, 1), (1, 1), (2, 1)], none, none, false, false, false, none⟩
def ti37 : TI := ⟨1, 24, false, [.nil 1], [], some 5, none, false, false, false, none⟩
def ti42 : TI := ⟨7, 56, true, [.pv (.int .i64 0), .pv (.int .i64 0), .pv (.int .i64 0), .pv (.int .i64 0), .pv (.int .i64 0), .pv (.int .i64 0), .pv (.int .i64 0)], [(0, 1), (1, 1), (2, 1), (3, 1), (4, 1), (5, 1), (6, 1)], none, none, false, false, true, none⟩
def ti43 : TI := ⟨1, 24, false, [.nil 1], [], some 9, none, false, false, false, none⟩
def ti45 : TI := ⟨1, 24, false, [.nil 1], [], some 3, none, false, false, false, none⟩
def ti71 : TI := ⟨7, 56, true, [.pv (.int .i64 0), .pv (.int .i64 0), .pv (.int .i64 0), .pv (.int .i64 0), .pv (.int .i64 0), .pv (.int .i64 0), .pv (.int .i64 0)], [(0, 1), (1, 1), (2, 1), (3, 1), (4, 1), (5, 1), (6, 1)], none, none, false, false, true, none⟩
def ti73 : TI := ⟨3, 40, true, [.nil 1, .pv (.int .i64 0), .pv (.int .i64 0)], [(0, 1), (1, 1), (2, 1)], none, none, false, false, false, none⟩
def ti90 : TI := ⟨1, 8, false, [.pv (.int .u64 0)], [], none, some .u64, false, false, true, none⟩
def ti98 : TI := ⟨24, 24, true, [.pv (.int .u8 0), .pv (.int .u8 0), .pv (.int .u8 0), .pv (.int .u8 0), .pv (.int .u8 0), .pv (.int .u8 0), .pv (.int .u8 0), .pv (.int .u8 0), .pv (.int .u8 0), .pv (.int .u8 0), .pv (.int .u8 0), .pv (.int .u8 0), .pv (.int .u8 0), .pv (.int .u8 0), .pv (.int .u8 0), .pv (.int .u8 0), .pv (.int .u8 0), .pv (.int .u8 0), .pv (.int .u8 0), .pv (.int .u8 0), .pv (.int .u8 0), .pv (.int .u8 0), .pv (.int .u8 0), .pv (.int .u8 0)], [], none, none, false, false, true, some (24, 1)⟩
def ti99 : TI := ⟨1, 8, false, [.pv (.int .u64 0)], [], none, some .u64, false, false, true, none⟩
def ti104 : TI := ⟨1, 4, false, [.pv (.int .u32 0)], [], none, some .u32, false, false, true, none⟩
def ti112 : TI := ⟨20, 160, true, [.pv (.int .u64 0), .pv (.int .u64 0), .pv (.int .u64 0), .pv (.int .u64 0), .pv (.int .u64 0), .pv (.int .u64 0), .pv (.int .u64 0), .pv (.int .u64 0), .pv (.int .u64 0), .pv (.int .u64 0), .pv (.int .u64 0), .pv (.int .u64 0), .pv (.int .u64 0), .pv (.int .u64 0), .pv (.int .u64 0), .pv (.int .u64 0), .pv (.int .u64 0), .pv (.int .u64 0), .pv (.int .u64 0), .pv (.int .u64 0)], [], none, none, false, false, true, some (20, 1)⟩
def ti125 : TI := ⟨2, 2, true, [.pv (.int .u8 0), .pv (.int .u8 0)], [(0, 1), (1, 1)], none, none, false, false, true, none⟩
def ti126 : TI := ⟨32, 32, true, [.pv (.int .u8 0), .pv (.int .u8 0), .pv (.int .u8 0), .pv (.int .u8 0), .pv (.int .u8 0), .pv (.int .u8 0), .pv (.int .u8 0), .pv (.int .u8 0), .pv (.int .u8 0), .pv (.int .u8 0), .pv (.int .u8 0), .pv (.int .u8 0), .pv (.int .u8 0), .pv (.int .u8 0), .pv (.int .u8 0), .pv (.int .u8 0), .pv (.int .u8 0), .pv (.int .u8 0), .pv (.int .u8 0), .pv (.int .u8 0), .pv (.int .u8 0), .pv (.int .u8 0), .pv (.int .u8 0), .pv (.int .u8 0), .pv (.int .u8 0), .pv (.int .u8 0), .pv (.int .u8 0), .pv (.int .u8 0), .pv (.int .u8 0), .pv (.int .u8 0), .pv (.int .u8 0), .pv (.int .u8 0)], [], none, none, false, false, true, some (16, 2)⟩
def ti133 : TI := ⟨32, 32, true, [.pv (.int .u8 0), .pv (.int .u8 0), .pv (.int .u8 0), .pv (.int .u8 0), .pv (.int .u8 0), .pv (.int .u8 0), .pv (.int .u8 0), .pv (.int .u8 0), .pv (.int .u8 0), .pv (.int .u8 0), .pv (.int .u8 0), .pv (.int .u8 0), .pv (.int .u8 0), .pv (.int .u8 0), .pv (.int .u8 0), .pv (.int .u8 0), .pv (.int .u8 0), .pv (.int .u8 0), .pv (.int .u8 0), .pv (.int .u8 0), .pv (.int .u8 0), .pv (.int .u8 0), .pv (.int .u8 0), .pv (.int .u8 0), .pv (.int .u8 0), .pv (.int .u8 0), .pv (.int .u8 0), .pv (.int .u8 0), .pv (.int .u8 0), .pv (.int .u8 0), .pv (.int .u8 0), .pv (.int .u8 0)], [], none, none, false, false, true, some (32, 1)⟩
def ti134 : TI := ⟨64, 64, true, [.pv (.int .u8 0), .pv (.int .u8 0), .pv (.int .u8 0), .pv (.int .u8 0), .pv (.int .u8 0), .pv (.int .u8 0), .pv (.int .u8 0), .pv (.int .u8 0), .pv (.int .u8 0), .pv (.int .u8 0), .pv (.int .u8 0), .pv (.int .u8 0), .pv (.int .u8 0), .pv (.int .u8 0), .pv (.int .u8 0), .pv (.int .u8 0), .pv (.int .u8 0), .pv (.int .u8 0), .pv (.int .u8 0), .pv (.int .u8 0), .pv (.int .u8 0), .pv (.int .u8 0), .pv (.int .u8 0), .pv (.int .u8 0), .pv (.int .u8 0), .pv (.int .u8 0), .pv (.int .u8 0), .pv (.int .u8 0), .pv (.int .u8 0), .pv (.int .u8 0), .pv (.int .u8 0), .pv (.int .u8 0), .pv (.int .u8 0), .pv (.int .u8 0), .pv (.int .u8 0), .pv (.int .u8 0), .pv (.int .u8 0), .pv (.int .u8 0), .pv (.int .u8 0), .pv (.int .u8 0), .pv (.int .u8 0), .pv (.int .u8 0), .pv (.int .u8 0), .pv (.int .u8 0), .pv (.int .u8 0), .pv (.int .u8 0), .pv (.int .u8 0), .pv (.int .u8 0), .pv (.int .u8 0), .pv (.int .u8 0), .pv (.int .u8 0), .pv (.int .u8 0), .pv (.int .u8 0), .pv (.int .u8 0), .pv (.int .u8 0), .pv (.int .u8 0), .pv (.int .u8 0), .pv (.int .u8 0), .pv (.int .u8 0), .pv (.int .u8 0), .pv (.int .u8 0), .pv (.int .u8 0), .pv (.int .u8 0), .pv (.int .u8 0)], [], none, none, false, false, true, some (64, 1)⟩
def ti139 : TI := ⟨1, 16, true, [.pv (.str ByteArray.empty)], [(0, 1)], none, none, false, false, true, none⟩
def tbl : List (Nat × TI) := [(2, ti2), (3, ti3), (4, ti4), (5, ti5), (9, ti9), (21, ti21), (22, ti22), (24, ti24), (30, ti30), (32, ti32), (37, ti37), (42, ti42), (43, ti43), (45, ti45), (71, ti71), (73, ti73), (90, ti90), (98, ti98), (99, ti99), (104, ti104), (112, ti112), (125, ti125), (126, ti126), (133, ti133), (134, ti134), (139, ti139)]
theorem tblOk : tblB Tryd.prog tbl = true := by kernel_rfl
theorem tg : TGOk Tryd.prog (lookT tbl) := tgok_of tblOk
def ilist : List Nat := [16, 22, 30, 31, 44, 45, 46, 47, 57, 58, 59, 60, 121, 122]
theorem mixed : Tryd.prog.follows .mixedOrders = true := by kernel_rfl
theorem dr : DrawOk Tryd.prog (lookT tbl) false (drawR Tryd.prog (lookT tbl) false) := drawR_ok tg mixed
theorem drD : DrawOk Tryd.prog (lookT tbl) true (drawR Tryd.prog (lookT tbl) true) := drawR_ok tg mixed
end Go.Proofs.YtfpcgomngnfdeaaDoor
