/- The types of the seat's program: a table, checked. -/
import Derived.Test.YtknlfechpcimkaaGreatViZ
import Derived.Test.YtknlfechpcimkaaGreatProg
namespace Go.Proofs.YtknlfechpcimkaaGreat
open Go Go.Vi
def ti3 : TI := ⟨1, 8, false, [.pv (.int .i64 0)], [], none, some .i64, false, false, true, none⟩
def ti4 : TI := ⟨1, 1, false, [.pv (.bool false)], [], none, none, false, true, true, none⟩
def ti22 : TI := ⟨1, 24, false, [.nil 7], [], some 125, none, false, false, false, none⟩
def ti24 : TI := ⟨3, 40, true, [.pv (.int .i64 0), .pv (.int .i64 0), .nil 7], [(0, 1), (1, 1), (2, 1)], none, none, false, false, false, none⟩
def ti25 : TI := ⟨1, 24, false, [.nil 13], [], some 110, none, false, false, false, none⟩
def ti27 : TI := ⟨2, 32, true, [.pv (.int .i64 0), .nil 13], [(0, 1), (1, 1)], none, none, false, false, false, none⟩
def ti28 : TI := ⟨1, 24, false, [.nil 17], [], some 84, none, false, false, false, none⟩
def ti30 : TI := ⟨11, 136, true, [.pv (.int .i64 0), .pv (.int .i64 0), .pv (.int .i64 0), .nil 7, .pv (.int .i64 0), .nil 13, .nil 17, .pv (.int .i64 0), .pv (.int .i64 0), .pv (.int .i64 0), .pv (.int .i64 0)], [(0, 1), (1, 3), (4, 2), (6, 1), (7, 1), (8, 1), (9, 1), (10, 1)], none, none, false, false, false, none⟩
def ti33 : TI := ⟨1, 24, false, [.nil 7], [], some 115, none, false, false, false, none⟩
def ti35 : TI := ⟨3, 40, true, [.pv (.int .i64 0), .pv (.int .i64 0), .nil 7], [(0, 1), (1, 1), (2, 1)], none, none, false, false, false, none⟩
def ti36 : TI := ⟨1, 24, false, [.nil 13], [], some 90, none, false, false, false, none⟩
def ti38 : TI := ⟨2, 32, true, [.pv (.int .i64 0), .nil 13], [(0, 1), (1, 1)], none, none, false, false, false, none⟩
def ti39 : TI := ⟨1, 24, false, [.nil 17], [], some 61, none, false, false, false, none⟩
def ti41 : TI := ⟨11, 136, true, [.pv (.int .i64 0), .pv (.int .i64 0), .pv (.int .i64 0), .nil 7, .pv (.int .i64 0), .nil 13, .nil 17, .pv (.int .i64 0), .pv (.int .i64 0), .pv (.int .i64 0), .pv (.int .i64 0)], [(0, 1), (1, 3), (4, 2), (6, 1), (7, 1), (8, 1), (9, 1), (10, 1)], none, none, false, false, false, none⟩
def ti52 : TI := ⟨1, 24, false, [.nil 9], [], some 59, none, false, false, false, none⟩
def ti54 : TI := ⟨1, 24, false, [.nil 1], [], some 3, none, false, false, false, none⟩
def ti55 : TI := ⟨1, 24, false, [.nil 1], [], some 4, none, false, false, false, none⟩
def ti57 : TI := ⟨6, 80, true, [.pv (.int .i64 0), .pv (.int .i64 0), .pv (.int .i64 0), .nil 1, .nil 1, .pv (.int .i64 0)], [(0, 1), (1, 1), (2, 1), (3, 1), (4, 1), (5, 1)], none, none, false, false, false, none⟩
def ti59 : TI := ⟨9, 104, true, [.pv (.int .i64 0), .pv (.int .i64 0), .pv (.int .i64 0), .pv (.int .i64 0), .pv (.int .i64 0), .pv (.int .i64 0), .nil 1, .nil 1, .pv (.int .i64 0)], [(0, 1), (1, 1), (2, 1), (3, 6)], none, none, false, false, false, none⟩
def ti61 : TI := ⟨17, 184, true, [.nil 9, .pv (.bool false), .pv (.int .i64 0), .pv (.int .i64 0), .pv (.int .i64 0), .pv (.int .i64 0), .pv (.int .i64 0), .pv (.int .i64 0), .nil 1, .nil 1, .pv (.int .i64 0), .pv (.int .i64 0), .pv (.int .i64 0), .pv (.int .i64 0), .pv (.int .i64 0), .pv (.int .i64 0), .pv (.int .i64 0)], [(0, 1), (1, 1), (2, 9), (11, 1), (12, 1), (13, 1), (14, 1), (15, 1), (16, 1)], none, none, false, false, false, none⟩
def ti68 : TI := ⟨1, 24, false, [.nil 2], [], some 70, none, false, false, false, none⟩
def ti70 : TI := ⟨2, 16, true, [.pv (.int .i64 0), .pv (.int .i64 0)], [(0, 1), (1, 1)], none, none, false, false, true, none⟩
def ti79 : TI := ⟨1, 24, false, [.nil 9], [], some 82, none, false, false, false, none⟩
def ti80 : TI := ⟨6, 80, true, [.pv (.int .i64 0), .pv (.int .i64 0), .pv (.int .i64 0), .nil 1, .nil 1, .pv (.int .i64 0)], [(0, 1), (1, 1), (2, 1), (3, 1), (4, 1), (5, 1)], none, none, false, false, false, none⟩
def ti82 : TI := ⟨9, 104, true, [.pv (.int .i64 0), .pv (.int .i64 0), .pv (.int .i64 0), .pv (.int .i64 0), .pv (.int .i64 0), .pv (.int .i64 0), .nil 1, .nil 1, .pv (.int .i64 0)], [(0, 1), (1, 1), (2, 1), (3, 6)], none, none, false, false, false, none⟩
def ti84 : TI := ⟨17, 184, true, [.nil 9, .pv (.bool false), .pv (.int .i64 0), .pv (.int .i64 0), .pv (.int .i64 0), .pv (.int .i64 0), .pv (.int .i64 0), .pv (.int .i64 0), .nil 1, .nil 1, .pv (.int .i64 0), .pv (.int .i64 0), .pv (.int .i64 0), .pv (.int .i64 0), .pv (.int .i64 0), .pv (.int .i64 0), .pv (.int .i64 0)], [(0, 1), (1, 1), (2, 9), (11, 1), (12, 1), (13, 1), (14, 1), (15, 1), (16, 1)], none, none, false, false, false, none⟩
def ti87 : TI := ⟨1, 24, false, [.nil 8], [], some 94, none, false, false, false, none⟩
def ti88 : TI := ⟨1, 24, false, [.nil 6], [], some 120, none, false, false, false, none⟩
def ti90 : TI := ⟨13, 184, true, [.pv (.int .i64 0), .pv (.int .i64 0), .pv (.int .i64 0), .pv (.int .i64 0), .pv (.int .i64 0), .pv (.int .i64 0), .pv (.int .i64 0), .nil 1, .nil 1, .pv (.int .i64 0), .nil 8, .nil 1, .nil 6], [(0, 1), (1, 1), (2, 1), (3, 1), (4, 6), (10, 1), (11, 1), (12, 1)], none, none, false, false, false, none⟩
def ti94 : TI := ⟨8, 96, true, [.pv (.int .i64 0), .pv (.int .i64 0), .pv (.int .i64 0), .pv (.int .i64 0), .pv (.int .i64 0), .nil 1, .nil 1, .pv (.int .i64 0)], [(0, 1), (1, 1), (2, 6)], none, none, false, false, false, none⟩
def ti107 : TI := ⟨1, 24, false, [.nil 8], [], some 158, none, false, false, false, none⟩
def ti108 : TI := ⟨1, 24, false, [.nil 6], [], some 160, none, false, false, false, none⟩
def ti110 : TI := ⟨13, 184, true, [.pv (.int .i64 0), .pv (.int .i64 0), .pv (.int .i64 0), .pv (.int .i64 0), .pv (.int .i64 0), .pv (.int .i64 0), .pv (.int .i64 0), .nil 1, .nil 1, .pv (.int .i64 0), .nil 8, .nil 1, .nil 6], [(0, 1), (1, 1), (2, 1), (3, 1), (4, 6), (10, 1), (11, 1), (12, 1)], none, none, false, false, false, none⟩
def ti115 : TI := ⟨7, 56, true, [.pv (.int .i64 0), .pv (.int .i64 0), .pv (.int .i64 0), .pv (.int .i64 0), .pv (.int .i64 0), .pv (.int .i64 0), .pv (.int .i64 0)], [(0, 1), (1, 1), (2, 1), (3, 1), (4, 1), (5, 1), (6, 1)], none, none, false, false, true, none⟩
def ti120 : TI := ⟨6, 80, true, [.pv (.int .i64 0), .pv (.int .i64 0), .pv (.int .i64 0), .pv (.int .i64 0), .nil 1, .nil 1], [(0, 1), (1, 1), (2, 1), (3, 1), (4, 1), (5, 1)], none, none, false, false, false, none⟩
def ti125 : TI := ⟨7, 56, true, [.pv (.int .i64 0), .pv (.int .i64 0), .pv (.int .i64 0), .pv (.int .i64 0), .pv (.int .i64 0), .pv (.int .i64 0), .pv (.int .i64 0)], [(0, 1), (1, 1), (2, 1), (3, 1), (4, 1), (5, 1), (6, 1)], none, none, false, false, true, none⟩
def ti147 : TI := ⟨2, 16, true, [.pv (.int .i64 0), .pv (.int .i64 0)], [], none, none, false, false, true, some (2, 1)⟩
def ti158 : TI := ⟨8, 96, true, [.pv (.int .i64 0), .pv (.int .i64 0), .pv (.int .i64 0), .pv (.int .i64 0), .pv (.int .i64 0), .nil 1, .nil 1, .pv (.int .i64 0)], [(0, 1), (1, 1), (2, 6)], none, none, false, false, false, none⟩
def ti160 : TI := ⟨6, 80, true, [.pv (.int .i64 0), .pv (.int .i64 0), .pv (.int .i64 0), .pv (.int .i64 0), .nil 1, .nil 1], [(0, 1), (1, 1), (2, 1), (3, 1), (4, 1), (5, 1)], none, none, false, false, false, none⟩
def tbl : List (Nat × TI) := [(3, ti3), (4, ti4), (22, ti22), (24, ti24), (25, ti25), (27, ti27), (28, ti28), (30, ti30), (33, ti33), (35, ti35), (36, ti36), (38, ti38), (39, ti39), (41, ti41), (52, ti52), (54, ti54), (55, ti55), (57, ti57), (59, ti59), (61, ti61), (68, ti68), (70, ti70), (79, ti79), (80, ti80), (82, ti82), (84, ti84), (87, ti87), (88, ti88), (90, ti90), (94, ti94), (107, ti107), (108, ti108), (110, ti110), (115, ti115), (120, ti120), (125, ti125), (147, ti147), (158, ti158), (160, ti160)]
theorem tblOk : tblB Tryz.prog tbl = true := by kernel_rfl
theorem tg : TGOk Tryz.prog (lookT tbl) := tgok_of tblOk
def ilist : List Nat := [17, 28, 54]
theorem mixed : Tryz.prog.follows .mixedOrders = true := by kernel_rfl
theorem dr : DrawOk Tryz.prog (lookT tbl) false (drawR Tryz.prog (lookT tbl) false) := drawR_ok tg mixed
theorem drD : DrawOk Tryz.prog (lookT tbl) true (drawR Tryz.prog (lookT tbl) true) := drawR_ok tg mixed
end Go.Proofs.YtknlfechpcimkaaGreat
