/- The library's contracts at the seat's program: strconv.Itoa. -/
import Derived.Test.YtfpcgomngnfdeaaDoorXRules
import Derived.Shelf.Strconv.Itoa3
import Derived.Shelf.Lay
import Derived.Ground.NamesProg
import Derived.Lib.LaidTab
import Derived.Lib.ItoaLen
namespace Go.Proofs.YtfpcgomngnfdeaaDoor
open Go Go.Vi
set_option linter.unusedVariables false
set_option linter.unusedSimpArgs false
set_option maxRecDepth 100000
-- IMPORT Derived.Shelf.Strconv.Itoa3
-- IMPORT Derived.Shelf.Lay
-- IMPORT Derived.Ground.NamesProg
-- IMPORT Derived.Lib.LaidTab
-- IMPORT Derived.Lib.ItoaLen
end Go.Proofs.YtfpcgomngnfdeaaDoor
namespace Go.Proofs
open Go.Shelf
shelf_lay LaysM.n171 Nm 171 at Tryd as Tryd.laysItoa
end Go.Proofs
namespace Go.Proofs.YtfpcgomngnfdeaaDoor
open Go Go.Vi
theorem laidG : Tryd.prog.globalNamed "internal/strconv.uint64pow10" = some 1 := by kernel_rfl
theorem pow10_eq : pow10L = Lib.pow10Tab := by decide
theorem laid_tab {w : World} (h : Laid w) : Lib.TabIs Tryd.prog w "internal/strconv.uint64pow10" .u64 Lib.pow10Tab := by
  obtain ⟨t, fl, h1⟩ := h.2
  unfold Lib.TabIs World.var?
  rw [laidG]
  simp only [Option.bind_some, h1, pow10_eq]
def numT (n : Int) : ByteArray := ⟨(Lib.itoa n).toArray⟩
theorem lib_itoa (n : Int) (h0 : -9223372036854775808 ≤ n) (h1 : n ≤ 9223372036854775807) : PureC Tryd.prog 29 [i64v n] [.one (.str (numT n))] := by
  refine ⟨⟨_, Tryd.func29, by kernel_rfl, rfl⟩, fun w vals hq hv => ?_⟩
  obtain ⟨u, hu, hr⟩ := hv.2 0 _ rfl
  have hu2 : u = .int .i64 n := by cases hr; rfl
  subst hu2
  have hvals : vals = [.int .i64 n] := by
    have hl := hv.1
    match vals, hl with
    | [a], _ => simp at hu; rw [hu]
  subst hvals
  refine (Any.strconv_Itoa Tryd.laysItoa n h0 h1 w (laid_tab hq)).mono fun e w' ⟨he, k, os, hw⟩ => ?_
  subst he hw
  refine ⟨_, fun _ => False, rfl, ⟨[_], rfl, rfl, fun _ _ _ => False, fun _ _ _ h => h, fun _ _ _ _ _ h => h.elim, fun i r hi => ?_⟩, fun _ h => h.elim, ⟨rfl, rfl, rfl, ?_, fun j hj => ?_⟩⟩
  · cases i with
    | zero => cases hi; exact ⟨_, rfl, Own.str _ _⟩
    | succ i => cases hi
  · show w.heap.size ≤ (w.heap ++ os).size
    rw [Array.size_append]; omega
  · show (w.heap ++ os)[j]? = w.heap[j]?
    rw [Array.getElem?_append_left hj]

end Go.Proofs.YtfpcgomngnfdeaaDoor
