/- The row of the law FnExactStreamHear: for every input that can be read, the call returns true and the arguments read as before. -/
import Derived.Test.YtgbpcljilceicaaRows
import Derived.Test.YtgbpcljilceicaaXStream
import Derived.Test.YtgbpcljilceicaaViZ
import Derived.WalkKit
import Derived.ProofKit
import Derived.OpenShut
import Derived.ShutString
import Derived.ChangeOld
import Derived.Below
import Derived.SizedLaws
namespace Go.Proofs.Ytgbpcljilceicaa.fnExactStreamHear
open Go Go.Vi Go.ChangeShapes Go.WideShapes Go.ChangeAt Go.RowKit
open Go.ChangeMaps (open_string shut_string)
open Go.Proofs.Ytgbpcljilceicaa
set_option linter.unusedVariables false
set_option linter.unusedSimpArgs false
theorem own : ownKnob Try.prog.godebug = none := by kernel_rfl
theorem laidOut : laidOutB Try.prog = true := by kernel_rfl
section
variable {H : Type} {enc : TypeId × Value → H} {w : World} {base : Nat} {spare : Nat → Bool} {held : Bool}
theorem op5 {fuel : Nat} {cs : List Value} {x : DataW H × List MemPlace} (h : DataW.trod enc Try.prog w base spare held fuel 5 cs = some x) : ∃ a : Int, RepPs w (Here w) [.int .u8 a] cs ∧ (Lit.int .u8 a).wf = true := rd_int Try.underlying5 h
theorem op22 {fuel : Nat} {cs : List Value} {x : DataW H × List MemPlace} (h : DataW.trod enc Try.prog w base spare held fuel 22 cs = some x) : ∃ a : List Int, RepPs w (Here w) [bytesP a] cs ∧ (∀ q0, q0 ∈ a → (Lit.int .u8 q0).wf = true) := rd_slice 0 (f := byteEl) (sz := 1) Try.underlying22 (by kernel_rfl) (by decide) (fun _ => rfl) (fun _ _ _ h => op5 h) h
theorem op4 {fuel : Nat} {cs : List Value} {x : DataW H × List MemPlace} (h : DataW.trod enc Try.prog w base spare held fuel 4 cs = some x) : ∃ a : Bool, RepPs w (Here w) [.bool a] cs ∧ True := rd_bool Try.underlying4 h
theorem op28 {fuel : Nat} {cs : List Value} {x : DataW H × List MemPlace} (h : DataW.trod enc Try.prog w base spare held fuel 28 cs = some x) : ∃ a : XStream, RepPs w (Here w) a.ps cs ∧ XStream.Ok a := by
  obtain ⟨xs, n, rfl, _, hl, hlen, hf⟩ := DataW.trod_struct Try.underlying28 h
  have hl2 : cs.length = 2 := hl.trans (by kernel_rfl)
  clear h
  have f0 := hf 0 _ rfl
  rw [List.getElem?_eq_getElem (show 0 < xs.length by rw [hlen]; decide)] at f0
  obtain ⟨a0, k0, g0⟩ := op22 (cs := (cs.drop 0).take 1) (show DataW.trod enc Try.prog w base spare held n 22 ((cs.drop 0).take 1) = some _ from by rw [show (cs.drop 0).take 1 = (cs.drop 0).take (Try.prog.cellsOf 22) from congrArg (fun z => (cs.drop 0).take z) (by kernel_rfl)]; exact f0)
  have f1 := hf 1 _ rfl
  rw [List.getElem?_eq_getElem (show 1 < xs.length by rw [hlen]; decide)] at f1
  obtain ⟨a1, k1, g1⟩ := op4 (cs := (cs.drop 1).take 1) (show DataW.trod enc Try.prog w base spare held n 4 ((cs.drop 1).take 1) = some _ from by rw [show (cs.drop 1).take 1 = (cs.drop 1).take (Try.prog.cellsOf 4) from congrArg (fun z => (cs.drop 1).take z) (by kernel_rfl)]; exact f1)
  exact ⟨⟨a0, a1⟩, (rd_more (o := 0) (s := 1) k0 (rd_last (o := 1) (s := 1) k1 hl2)), ⟨g0, g1⟩⟩
end
set_option maxRecDepth 100000 in
theorem lifted (os : Os) (started : os.Started) (H : Type) (enc : TypeId × Value → H) :
    ReturnsInHanded {} Try.checked os 5 .any (Rows.fnExactStreamHearSpec.pre6 enc Try.prog Try.f5 Rows.fnExactStreamHearRow.domain false) (Rows.fnExactStreamHearSpec.post enc Try.prog Try.f5 false true false false) := by
  refine returnsInHanded_of_change_sized (C := Try.checked) own started (by kernel_rfl) Try.func5
    (ChangeSpec.witness6 (enc := enc) (C := Try.checked) false ⟨#[], #[.agg #[.slice none 0 0, .bool false], .slice none 0 0], []⟩ 8 (by kernel_rfl) (by kernel_rfl) (by kernel_rfl) (by kernel_rfl)) ?_
  intro W base args ds gs before hval0 hW hcnd hsz0 _
  have hval : ∀ (j : Nat) t v, Try.f5.params[j]? = some t → args[j]? = some v → Value.okWide Try.prog W .any base t v := hval0
  have hW' := hW
  obtain ⟨p, q, hA0, hV, rfl, hfz, hnd⟩ := hW
  have hA : DataW.TrodAll enc Try.prog W 0 (fun _ => true) true Try.f5.params.toList args.toList ds p := hA0
  rw [Try.params5] at hA hval
  obtain ⟨v0, vs0, d0, ds0, p0, q0, hargs, rfl, rfl, h0, r0⟩ := trodAll_cons hA
  obtain ⟨v1, vs1, d1, ds1, p1, q1, rfl, rfl, rfl, h1, r1⟩ := trodAll_cons r0
  obtain ⟨rfl, rfl, rfl⟩ := trodAll_nil r1
  obtain rfl : args = #[v0, v1] := by cases args; simp_all
  obtain ⟨rfl, rfl⟩ := trodVars_none hV
  obtain ⟨cs0, rfl, hs0⟩ := okWide_struct Try.underlying28 (hval 0 28 v0 rfl rfl)
  have k0 := h0
  have lt0 : ∀ x ∈ p0, x.block < W.heap.size := by obtain ⟨m, hm⟩ := k0; exact DataW.trod_lt m _ _ _ hm
  obtain ⟨fuel0, hf0⟩ := h0
  obtain ⟨x0, K0, g0⟩ := op28 hf0
  obtain ⟨a1, len1, cap1, rfl⟩ := okWide_slice Try.underlying22 (hval 1 22 v1 rfl rfl)
  have k1 := h1
  have lt1 : ∀ x ∈ p1, x.block < W.heap.size := by obtain ⟨m, hm⟩ := k1; exact DataW.trod_lt m _ _ _ hm
  obtain ⟨fuel1, hf1⟩ := h1
  obtain ⟨x1, K1, g1⟩ := op22 hf1
  clear hA0 hval0 hsz0
  refine ((law_FnExactStreamHear x0 g0 x1 g1).law (w := W) (repVs_cons (rep_agg K0) (repVs_cons (rep_one K1 rfl) repVs_nil))).mono fun e W' he0 => ?_
  obtain ⟨he, bel⟩ := he0
  subst he
  exact ⟨_, rfl, _, _, _, [], _, [], hW', trodAll_mk1 (shut_bool Try.underlying4 _), (trodAll_cons_mk (Below.trod laidOut (by kernel_rfl) (of_decide_eq_true (by kernel_rfl)) k0 bel lt0) (trodAll_cons_mk (Below.trod laidOut (by kernel_rfl) (of_decide_eq_true (by kernel_rfl)) k1 bel lt1) trodAll_mk0)), rfl, bel.frame _, fun h => by cases h⟩
theorem over : Rows.fnExactStreamHearRow.holds Try.pinned (OpenSpec.ofChange Rows.fnExactStreamHearSpec) :=
  OpenClaim.holds_of_wide 5 Try.f5 rfl rfl rfl rfl rfl rfl rfl ⟨rfl, rfl, rfl, rfl, rfl⟩ rfl rfl rfl rfl rfl (by kernel_rfl) Try.func5 (by kernel_rfl)
    (of_decide_eq_true (by kernel_rfl)) (by unfold Func.isWrapper; first | (rw [if_pos (by decide +kernel)]; kernel_rfl) | (rw [if_neg (by decide +kernel)]; exact ⟨rfl, rfl⟩))
    (fun os started H enc _ => lifted os started H enc)
theorem proved : Rows.FnExactStreamHearSaid := over
#print axioms proved
end Go.Proofs.Ytgbpcljilceicaa.fnExactStreamHear
namespace Go.Proofs.Ytgbpcljilceicaa
/-- The row, under a short name, for the claim. -/
theorem fnExactStreamHear_holds : Rows.FnExactStreamHearSaid := fnExactStreamHear.proved
end Go.Proofs.Ytgbpcljilceicaa
