/- The row of the law FnExactFabricNew: for every input that can be read, the call returns true and the arguments read as before. -/
import Derived.Test.YtfpcgomngnfdeaaRows
import Derived.Test.YtfpcgomngnfdeaaXFabric
import Derived.Test.YtfpcgomngnfdeaaViZ
import Derived.WalkKit
import Derived.ProofKit
import Derived.OpenShut
import Derived.ShutString
import Derived.ChangeOld
import Derived.Below
import Derived.SizedLaws
namespace Go.Proofs.Ytfpcgomngnfdeaa.fnExactFabricNew
open Go Go.Vi Go.ChangeShapes Go.WideShapes Go.ChangeAt Go.RowKit
open Go.ChangeMaps (open_string shut_string)
open Go.Proofs.Ytfpcgomngnfdeaa
set_option linter.unusedVariables false
set_option linter.unusedSimpArgs false
theorem own : ownKnob Try.prog.godebug = none := by kernel_rfl
theorem laidOut : laidOutB Try.prog = true := by kernel_rfl
section
variable {H : Type} {enc : TypeId × Value → H} {w : World} {base : Nat} {spare : Nat → Bool} {held : Bool}
theorem op3 {fuel : Nat} {cs : List Value} {x : DataW H × List MemPlace} (h : DataW.trod enc Try.prog w base spare held fuel 3 cs = some x) : ∃ a : Int, RepPs w (Here w) [.int .i64 a] cs ∧ (Lit.int .i64 a).wf = true := rd_int Try.underlying3 h
theorem op67 {fuel : Nat} {cs : List Value} {x : DataW H × List MemPlace} (h : DataW.trod enc Try.prog w base spare held fuel 67 cs = some x) : ∃ a : XRule, RepPs w (Here w) a.ps cs ∧ XRule.Ok a := by
  obtain ⟨xs, n, rfl, _, hl, hlen, hf⟩ := DataW.trod_struct Try.underlying67 h
  have hl2 : cs.length = 7 := hl.trans (by kernel_rfl)
  clear h
  have f0 := hf 0 _ rfl
  rw [List.getElem?_eq_getElem (show 0 < xs.length by rw [hlen]; decide)] at f0
  obtain ⟨a0, k0, g0⟩ := op3 (cs := (cs.drop 0).take 1) (show DataW.trod enc Try.prog w base spare held n 3 ((cs.drop 0).take 1) = some _ from by rw [show (cs.drop 0).take 1 = (cs.drop 0).take (Try.prog.cellsOf 3) from congrArg (fun z => (cs.drop 0).take z) (by kernel_rfl)]; exact f0)
  have f1 := hf 1 _ rfl
  rw [List.getElem?_eq_getElem (show 1 < xs.length by rw [hlen]; decide)] at f1
  obtain ⟨a1, k1, g1⟩ := op3 (cs := (cs.drop 1).take 1) (show DataW.trod enc Try.prog w base spare held n 3 ((cs.drop 1).take 1) = some _ from by rw [show (cs.drop 1).take 1 = (cs.drop 1).take (Try.prog.cellsOf 3) from congrArg (fun z => (cs.drop 1).take z) (by kernel_rfl)]; exact f1)
  have f2 := hf 2 _ rfl
  rw [List.getElem?_eq_getElem (show 2 < xs.length by rw [hlen]; decide)] at f2
  obtain ⟨a2, k2, g2⟩ := op3 (cs := (cs.drop 2).take 1) (show DataW.trod enc Try.prog w base spare held n 3 ((cs.drop 2).take 1) = some _ from by rw [show (cs.drop 2).take 1 = (cs.drop 2).take (Try.prog.cellsOf 3) from congrArg (fun z => (cs.drop 2).take z) (by kernel_rfl)]; exact f2)
  have f3 := hf 3 _ rfl
  rw [List.getElem?_eq_getElem (show 3 < xs.length by rw [hlen]; decide)] at f3
  obtain ⟨a3, k3, g3⟩ := op3 (cs := (cs.drop 3).take 1) (show DataW.trod enc Try.prog w base spare held n 3 ((cs.drop 3).take 1) = some _ from by rw [show (cs.drop 3).take 1 = (cs.drop 3).take (Try.prog.cellsOf 3) from congrArg (fun z => (cs.drop 3).take z) (by kernel_rfl)]; exact f3)
  have f4 := hf 4 _ rfl
  rw [List.getElem?_eq_getElem (show 4 < xs.length by rw [hlen]; decide)] at f4
  obtain ⟨a4, k4, g4⟩ := op3 (cs := (cs.drop 4).take 1) (show DataW.trod enc Try.prog w base spare held n 3 ((cs.drop 4).take 1) = some _ from by rw [show (cs.drop 4).take 1 = (cs.drop 4).take (Try.prog.cellsOf 3) from congrArg (fun z => (cs.drop 4).take z) (by kernel_rfl)]; exact f4)
  have f5 := hf 5 _ rfl
  rw [List.getElem?_eq_getElem (show 5 < xs.length by rw [hlen]; decide)] at f5
  obtain ⟨a5, k5, g5⟩ := op3 (cs := (cs.drop 5).take 1) (show DataW.trod enc Try.prog w base spare held n 3 ((cs.drop 5).take 1) = some _ from by rw [show (cs.drop 5).take 1 = (cs.drop 5).take (Try.prog.cellsOf 3) from congrArg (fun z => (cs.drop 5).take z) (by kernel_rfl)]; exact f5)
  have f6 := hf 6 _ rfl
  rw [List.getElem?_eq_getElem (show 6 < xs.length by rw [hlen]; decide)] at f6
  obtain ⟨a6, k6, g6⟩ := op3 (cs := (cs.drop 6).take 1) (show DataW.trod enc Try.prog w base spare held n 3 ((cs.drop 6).take 1) = some _ from by rw [show (cs.drop 6).take 1 = (cs.drop 6).take (Try.prog.cellsOf 3) from congrArg (fun z => (cs.drop 6).take z) (by kernel_rfl)]; exact f6)
  exact ⟨⟨a0, a1, a2, a3, a4, a5, a6⟩, (rd_more (o := 0) (s := 1) k0 (rd_more (o := 1) (s := 1) k1 (rd_more (o := 2) (s := 1) k2 (rd_more (o := 3) (s := 1) k3 (rd_more (o := 4) (s := 1) k4 (rd_more (o := 5) (s := 1) k5 (rd_last (o := 6) (s := 1) k6 hl2))))))), ⟨g0, g1, g2, g3, g4, g5, g6⟩⟩
theorem op22 {fuel : Nat} {cs : List Value} {x : DataW H × List MemPlace} (h : DataW.trod enc Try.prog w base spare held fuel 22 cs = some x) : ∃ a : List XRule, RepPs w (Here w) [XRule.sP a] cs ∧ (∀ q0, q0 ∈ a → XRule.Ok q0) := rd_slice XRule.zero (f := XRule.ps) (sz := 7) Try.underlying22 (by kernel_rfl) (by decide) (fun _ => rfl) (fun _ _ _ h => op67 h) h
theorem op24 {fuel : Nat} {cs : List Value} {x : DataW H × List MemPlace} (h : DataW.trod enc Try.prog w base spare held fuel 24 cs = some x) : ∃ a : XConfig, RepPs w (Here w) a.ps cs ∧ XConfig.Ok a := by
  obtain ⟨xs, n, rfl, _, hl, hlen, hf⟩ := DataW.trod_struct Try.underlying24 h
  have hl2 : cs.length = 3 := hl.trans (by kernel_rfl)
  clear h
  have f0 := hf 0 _ rfl
  rw [List.getElem?_eq_getElem (show 0 < xs.length by rw [hlen]; decide)] at f0
  obtain ⟨a0, k0, g0⟩ := op3 (cs := (cs.drop 0).take 1) (show DataW.trod enc Try.prog w base spare held n 3 ((cs.drop 0).take 1) = some _ from by rw [show (cs.drop 0).take 1 = (cs.drop 0).take (Try.prog.cellsOf 3) from congrArg (fun z => (cs.drop 0).take z) (by kernel_rfl)]; exact f0)
  have f1 := hf 1 _ rfl
  rw [List.getElem?_eq_getElem (show 1 < xs.length by rw [hlen]; decide)] at f1
  obtain ⟨a1, k1, g1⟩ := op3 (cs := (cs.drop 1).take 1) (show DataW.trod enc Try.prog w base spare held n 3 ((cs.drop 1).take 1) = some _ from by rw [show (cs.drop 1).take 1 = (cs.drop 1).take (Try.prog.cellsOf 3) from congrArg (fun z => (cs.drop 1).take z) (by kernel_rfl)]; exact f1)
  have f2 := hf 2 _ rfl
  rw [List.getElem?_eq_getElem (show 2 < xs.length by rw [hlen]; decide)] at f2
  obtain ⟨a2, k2, g2⟩ := op22 (cs := (cs.drop 2).take 1) (show DataW.trod enc Try.prog w base spare held n 22 ((cs.drop 2).take 1) = some _ from by rw [show (cs.drop 2).take 1 = (cs.drop 2).take (Try.prog.cellsOf 22) from congrArg (fun z => (cs.drop 2).take z) (by kernel_rfl)]; exact f2)
  exact ⟨⟨a0, a1, a2⟩, (rd_more (o := 0) (s := 1) k0 (rd_more (o := 1) (s := 1) k1 (rd_last (o := 2) (s := 1) k2 hl2))), ⟨g0, g1, g2⟩⟩
end
set_option maxRecDepth 100000 in
theorem lifted (os : Os) (started : os.Started) (H : Type) (enc : TypeId × Value → H) :
    ReturnsInHanded {} Try.checked os 3 .any (Rows.fnExactFabricNewSpec.pre6 enc Try.prog Try.f3 Rows.fnExactFabricNewRow.domain false) (Rows.fnExactFabricNewSpec.post enc Try.prog Try.f3 false true false false) := by
  refine returnsInHanded_of_change_sized (C := Try.checked) own started (by kernel_rfl) Try.func3
    (ChangeSpec.witness6 (enc := enc) (C := Try.checked) false ⟨#[], #[.agg #[.int .i64 0, .int .i64 0, .slice none 0 0]], []⟩ 8 (by kernel_rfl) (by kernel_rfl) (by kernel_rfl) (by kernel_rfl)) ?_
  intro W base args ds gs before hval0 hW hcnd hsz0 _
  have hval : ∀ (j : Nat) t v, Try.f3.params[j]? = some t → args[j]? = some v → Value.okWide Try.prog W .any base t v := hval0
  have hW' := hW
  obtain ⟨p, q, hA0, hV, rfl, hfz, hnd⟩ := hW
  have hA : DataW.TrodAll enc Try.prog W 0 (fun _ => true) true Try.f3.params.toList args.toList ds p := hA0
  rw [Try.params3] at hA hval
  obtain ⟨v0, vs0, d0, ds0, p0, q0, hargs, rfl, rfl, h0, r0⟩ := trodAll_cons hA
  obtain ⟨rfl, rfl, rfl⟩ := trodAll_nil r0
  obtain rfl : args = #[v0] := by cases args; simp_all
  obtain ⟨rfl, rfl⟩ := trodVars_none hV
  obtain ⟨cs0, rfl, hs0⟩ := okWide_struct Try.underlying24 (hval 0 24 v0 rfl rfl)
  have k0 := h0
  have lt0 : ∀ x ∈ p0, x.block < W.heap.size := by obtain ⟨m, hm⟩ := k0; exact DataW.trod_lt m _ _ _ hm
  obtain ⟨fuel0, hf0⟩ := h0
  obtain ⟨x0, K0, g0⟩ := op24 hf0
  clear hA0 hval0 hsz0
  refine ((law_FnExactFabricNew x0 g0).law (w := W) (repVs_cons (rep_agg K0) repVs_nil)).mono fun e W' he0 => ?_
  obtain ⟨he, bel⟩ := he0
  subst he
  exact ⟨_, rfl, _, _, _, [], _, [], hW', trodAll_mk1 (shut_bool Try.underlying4 _), (trodAll_cons_mk (Below.trod laidOut (by kernel_rfl) (of_decide_eq_true (by kernel_rfl)) k0 bel lt0) trodAll_mk0), rfl, bel.frame _, fun h => by cases h⟩
theorem over : Rows.fnExactFabricNewRow.holds Try.pinned (OpenSpec.ofChange Rows.fnExactFabricNewSpec) :=
  OpenClaim.holds_of_wide 3 Try.f3 rfl rfl rfl rfl rfl rfl rfl ⟨rfl, rfl, rfl, rfl, rfl⟩ rfl rfl rfl rfl rfl (by kernel_rfl) Try.func3 (by kernel_rfl)
    (of_decide_eq_true (by kernel_rfl)) (by unfold Func.isWrapper; first | (rw [if_pos (by decide +kernel)]; kernel_rfl) | (rw [if_neg (by decide +kernel)]; exact ⟨rfl, rfl⟩))
    (fun os started H enc _ => lifted os started H enc)
theorem proved : Rows.FnExactFabricNewSaid := over
#print axioms proved
end Go.Proofs.Ytfpcgomngnfdeaa.fnExactFabricNew
namespace Go.Proofs.Ytfpcgomngnfdeaa
/-- The row, under a short name, for the claim. -/
theorem fnExactFabricNew_holds : Rows.FnExactFabricNewSaid := fnExactFabricNew.proved
end Go.Proofs.Ytfpcgomngnfdeaa
