/- The row of the law FnExactStreamOk, out of its pure statement and the walk: for every input that can be read, the call returns true and the arguments read as before. -/
import Derived.Test.YtjjfjeoajhdlcaaRows
import Derived.Test.YtjjfjeoajhdlcaaPFnExactStreamOkx2
import Derived.Test.YtjjfjeoajhdlcaaPureFnExactStreamOk
import Derived.Test.YtjjfjeoajhdlcaaWOpens
import Derived.WalkKit
import Derived.ProofKit
import Derived.OpenShut
import Derived.ShutString
import Derived.ChangeOld
import Derived.Below
import Derived.SizedLaws
namespace Go.Proofs.Ytjjfjeoajhdlcaa.fnExactStreamOk
open Go.ChangeShapes Go.WideShapes Go.ChangeAt Go.RowKit
open Go.ChangeMaps (open_string shut_string)
open Go.Proofs.YtjjfjeoajhdlcaaW.Opens Go.Proofs.YtjjfjeoajhdlcaaW.PrintWords Go.Proofs.Ytjjfjeoajhdlcaa.PFnExactStreamOk
set_option linter.unusedVariables false
set_option linter.unusedSimpArgs false
theorem own : ownKnob Try.prog.godebug = none := by kernel_rfl
theorem laidOut : laidOutB Try.prog = true := by kernel_rfl
section
variable {H : Type} {enc : TypeId × Value → H} {w : World} {base : Nat} {spare : Nat → Bool} {held : Bool}
theorem op5 {fuel : Nat} {cs : List Value} {x : DataW H × List MemPlace} (h : DataW.trod enc Try.prog w base spare held fuel 5 cs = some x) : ∃ a : Int, (Kd.int .u8).K w a cs ∧ ((Lit.int .u8 a).wf = true) := read_int Try.underlying5 h
theorem op22 {fuel : Nat} {cs : List Value} {x : DataW H × List MemPlace} (h : DataW.trod enc Try.prog w base spare held fuel 22 cs = some x) : ∃ a : List Int, (Kd.slice 5 (Kd.int .u8)).K w a cs ∧ ((a.length ≤ 9223372036854775807 ∧ ∀ q0, q0 ∈ a → (Lit.int .u8 q0).wf = true)) := read_slice 0 Try.underlying22 (by kernel_rfl) (fun _ _ _ h => op5 h) h
theorem op4 {fuel : Nat} {cs : List Value} {x : DataW H × List MemPlace} (h : DataW.trod enc Try.prog w base spare held fuel 4 cs = some x) : ∃ a : Bool, Kd.bool.K w a cs ∧ (True) := read_bool Try.underlying4 h
theorem op24 {fuel : Nat} {cs : List Value} {x : DataW H × List MemPlace} (h : DataW.trod enc Try.prog w base spare held fuel 24 cs = some x) : ∃ a : S24, k24.K w a cs ∧ G24 a := by
  obtain ⟨xs, n, rfl, _, hl, hlen, hf⟩ := DataW.trod_struct Try.underlying24 h
  have hl2 : cs.length = 2 := hl.trans (by kernel_rfl)
  clear h
  have f0 := hf 0 _ rfl
  rw [List.getElem?_eq_getElem (show 0 < xs.length by rw [hlen]; decide)] at f0
  obtain ⟨a0, k0, g0⟩ := op22 (cs := (cs.drop 0).take 1) (show DataW.trod enc Try.prog w base spare held n 22 ((cs.drop 0).take 1) = some _ from by rw [show 1 = Try.prog.cellsOf 22 from by kernel_rfl]; exact f0)
  have f1 := hf 1 _ rfl
  rw [List.getElem?_eq_getElem (show 1 < xs.length by rw [hlen]; decide)] at f1
  obtain ⟨a1, k1, g1⟩ := op4 (cs := (cs.drop 1).take 1) (show DataW.trod enc Try.prog w base spare held n 4 ((cs.drop 1).take 1) = some _ from by rw [show 1 = Try.prog.cellsOf 4 from by kernel_rfl]; exact f1)
  exact ⟨⟨a0, a1⟩, (pair_ (o := 0) (s := 1) k0 (field_ (o := 1) (s := 1) k1 hl2)), ⟨g0, g1⟩⟩
end
set_option maxRecDepth 100000 in
theorem lifted (os : Os) (started : os.Started) (H : Type) (enc : TypeId × Value → H) :
    ReturnsInHanded {} Try.checked os 3 .any (Rows.fnExactStreamOkSpec.pre6 enc Try.prog Try.f3 Rows.fnExactStreamOkRow.domain false) (Rows.fnExactStreamOkSpec.post enc Try.prog Try.f3 false true false false) := by
  refine returnsInHanded_of_change_sized (C := Try.checked) own started (by kernel_rfl) Try.func3
    (ChangeSpec.witness6 (enc := enc) (C := Try.checked) false ⟨#[], #[.agg #[.slice none 0 0, .bool false]], []⟩ 8 (by kernel_rfl) (by kernel_rfl) (by kernel_rfl) (by kernel_rfl)) ?_
  intro W base args ds gs before hval0 hW hcnd hsz0 _
  have hval : ∀ (j : Nat) t v, Try.f3.params[j]? = some t → args[j]? = some v → Value.okWide Try.prog W .any base t v := hval0
  have hW' := hW
  obtain ⟨p, q, hA0, hV, rfl, hfz, hnd⟩ := hW
  have hA : DataW.TrodAll enc Try.prog W 0 (fun _ => true) true Try.f3.params.toList args.toList ds p := hA0
  rw [Try.params3] at hA hval
  obtain ⟨v0, vs0, d0, ds0, p0, q0, hargs, rfl, rfl, h0, r0⟩ := trodAll_cons hA
  obtain ⟨rfl, rfl, rfl⟩ := trodAll_nil r0
  obtain rfl : args = #[v0] := by cases args; simp_all
  obtain ⟨rfl, rfl⟩ := trodVars_none hV
  obtain ⟨cs0, rfl, hs0⟩ := okWide_struct Try.underlying24 (hval 0 24 v0 rfl rfl)
  have k0 := h0
  have lt0 : ∀ x ∈ p0, x.block < W.heap.size := by obtain ⟨m, hm⟩ := k0; exact DataW.trod_lt m _ _ _ hm
  obtain ⟨fuel0, hf0⟩ := h0
  obtain ⟨x0, K0, g0⟩ := op24 hf0
  obtain ⟨A0_0, c0_0, e0, lc0_0, hr0_0⟩ := k24_open K0
  obtain rfl : cs0 = #[.slice A0_0 x0.f0.length c0_0, .bool x0.f1] := by
    have e_ : cs0.toList = [.slice A0_0 x0.f0.length c0_0, .bool x0.f1] := e0
    rw [← Array.toArray_toList (xs := cs0), e_]
  clear hA0 hval0 hsz0
  obtain ⟨k, hp⟩ := Pure.FnExactStreamOk x0.f0 x0.f1 g0.1
  refine (laws_FnExactStreamOk.calls k _ _ x0.f0 x0.f1 true W hr0_0 lc0_0 hp).mono fun e W' he0 => ?_
  obtain ⟨he, bel⟩ := he0
  subst he
  exact ⟨_, rfl, _, _, _, [], _, [], hW', trodAll_mk1 (shut_bool Try.underlying4 _), (trodAll_cons_mk (Below.trod laidOut (by kernel_rfl) (of_decide_eq_true (by kernel_rfl)) k0 bel lt0) trodAll_mk0), rfl, bel.frame _, fun h => by cases h⟩
theorem over : Rows.fnExactStreamOkRow.holds Try.pinned (OpenSpec.ofChange Rows.fnExactStreamOkSpec) :=
  OpenClaim.holds_of_wide 3 Try.f3 rfl rfl rfl rfl rfl rfl rfl ⟨rfl, rfl, rfl, rfl, rfl⟩ rfl rfl rfl rfl rfl (by kernel_rfl) Try.func3 (by kernel_rfl)
    (of_decide_eq_true (by kernel_rfl)) (by unfold Func.isWrapper; first | (rw [if_pos (by decide +kernel)]; kernel_rfl) | (rw [if_neg (by decide +kernel)]; exact ⟨rfl, rfl⟩))
    (fun os started H enc _ => lifted os started H enc)
theorem proved : Rows.FnExactStreamOkSaid := over
#print axioms proved
end Go.Proofs.Ytjjfjeoajhdlcaa.fnExactStreamOk
namespace Go.Proofs.Ytjjfjeoajhdlcaa
/-- The row, under a short name, for the claim. -/
theorem fnExactStreamOk_holds : Rows.FnExactStreamOkSaid := fnExactStreamOk.proved
end Go.Proofs.Ytjjfjeoajhdlcaa
