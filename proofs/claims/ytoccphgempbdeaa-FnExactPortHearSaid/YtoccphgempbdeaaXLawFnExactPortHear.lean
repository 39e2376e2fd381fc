/- The row of the law FnExactPortHear: for every input that can be read, the call returns true and the arguments read as before. -/
import Derived.Test.YtoccphgempbdeaaRows
import Derived.Test.YtoccphgempbdeaaXPortHear2
import Derived.Test.YtoccphgempbdeaaViZ
import Derived.WalkKit
import Derived.ProofKit
import Derived.OpenShut
import Derived.ShutString
import Derived.ChangeOld
import Derived.Below
import Derived.SizedLaws
namespace Go.Proofs.Ytoccphgempbdeaa.fnExactPortHear
open Go Go.Vi Go.ChangeShapes Go.WideShapes Go.ChangeAt Go.RowKit
open Go.ChangeMaps (open_string shut_string)
open Go.Proofs.Ytoccphgempbdeaa
set_option linter.unusedVariables false
set_option linter.unusedSimpArgs false
theorem own : ownKnob Try.prog.godebug = none := by kernel_rfl
theorem laidOut : laidOutB Try.prog = true := by kernel_rfl
section
variable {H : Type} {enc : TypeId × Value → H} {w : World} {base : Nat} {spare : Nat → Bool} {held : Bool}
theorem op3 {fuel : Nat} {cs : List Value} {x : DataW H × List MemPlace} (h : DataW.trod enc Try.prog w base spare held fuel 3 cs = some x) : ∃ a : Int, RepPs w (Here w) [.int .i64 a] cs ∧ (Lit.int .i64 a).wf = true := rd_int Try.underlying3 h
theorem op5 {fuel : Nat} {cs : List Value} {x : DataW H × List MemPlace} (h : DataW.trod enc Try.prog w base spare held fuel 5 cs = some x) : ∃ a : Int, RepPs w (Here w) [.int .u8 a] cs ∧ (Lit.int .u8 a).wf = true := rd_int Try.underlying5 h
theorem op22 {fuel : Nat} {cs : List Value} {x : DataW H × List MemPlace} (h : DataW.trod enc Try.prog w base spare held fuel 22 cs = some x) : ∃ a : List Int, RepPs w (Here w) [bytesP a] cs ∧ (∀ q0, q0 ∈ a → (Lit.int .u8 q0).wf = true) := rd_slice 0 (f := byteEl) (sz := 1) Try.underlying22 (by kernel_rfl) (by decide) (fun _ => rfl) (fun _ _ _ h => op5 h) h
theorem op4 {fuel : Nat} {cs : List Value} {x : DataW H × List MemPlace} (h : DataW.trod enc Try.prog w base spare held fuel 4 cs = some x) : ∃ a : Bool, RepPs w (Here w) [.bool a] cs ∧ True := rd_bool Try.underlying4 h
theorem op24 {fuel : Nat} {cs : List Value} {x : DataW H × List MemPlace} (h : DataW.trod enc Try.prog w base spare held fuel 24 cs = some x) : ∃ a : XRtu, RepPs w (Here w) a.ps cs ∧ XRtu.Ok a := by
  obtain ⟨xs, n, rfl, _, hl, hlen, hf⟩ := DataW.trod_struct Try.underlying24 h
  have hl2 : cs.length = 5 := hl.trans (by kernel_rfl)
  clear h
  have f0 := hf 0 _ rfl
  rw [List.getElem?_eq_getElem (show 0 < xs.length by rw [hlen]; decide)] at f0
  obtain ⟨a0, k0, g0⟩ := op22 (cs := (cs.drop 0).take 1) (show DataW.trod enc Try.prog w base spare held n 22 ((cs.drop 0).take 1) = some _ from by rw [show (cs.drop 0).take 1 = (cs.drop 0).take (Try.prog.cellsOf 22) from congrArg (fun z => (cs.drop 0).take z) (by kernel_rfl)]; exact f0)
  have f1 := hf 1 _ rfl
  rw [List.getElem?_eq_getElem (show 1 < xs.length by rw [hlen]; decide)] at f1
  obtain ⟨a1, k1, g1⟩ := op3 (cs := (cs.drop 1).take 1) (show DataW.trod enc Try.prog w base spare held n 3 ((cs.drop 1).take 1) = some _ from by rw [show (cs.drop 1).take 1 = (cs.drop 1).take (Try.prog.cellsOf 3) from congrArg (fun z => (cs.drop 1).take z) (by kernel_rfl)]; exact f1)
  have f2 := hf 2 _ rfl
  rw [List.getElem?_eq_getElem (show 2 < xs.length by rw [hlen]; decide)] at f2
  obtain ⟨a2, k2, g2⟩ := op4 (cs := (cs.drop 2).take 1) (show DataW.trod enc Try.prog w base spare held n 4 ((cs.drop 2).take 1) = some _ from by rw [show (cs.drop 2).take 1 = (cs.drop 2).take (Try.prog.cellsOf 4) from congrArg (fun z => (cs.drop 2).take z) (by kernel_rfl)]; exact f2)
  have f3 := hf 3 _ rfl
  rw [List.getElem?_eq_getElem (show 3 < xs.length by rw [hlen]; decide)] at f3
  obtain ⟨a3, k3, g3⟩ := op3 (cs := (cs.drop 3).take 1) (show DataW.trod enc Try.prog w base spare held n 3 ((cs.drop 3).take 1) = some _ from by rw [show (cs.drop 3).take 1 = (cs.drop 3).take (Try.prog.cellsOf 3) from congrArg (fun z => (cs.drop 3).take z) (by kernel_rfl)]; exact f3)
  have f4 := hf 4 _ rfl
  rw [List.getElem?_eq_getElem (show 4 < xs.length by rw [hlen]; decide)] at f4
  obtain ⟨a4, k4, g4⟩ := op3 (cs := (cs.drop 4).take 1) (show DataW.trod enc Try.prog w base spare held n 3 ((cs.drop 4).take 1) = some _ from by rw [show (cs.drop 4).take 1 = (cs.drop 4).take (Try.prog.cellsOf 3) from congrArg (fun z => (cs.drop 4).take z) (by kernel_rfl)]; exact f4)
  exact ⟨⟨a0, a1, a2, a3, a4⟩, (rd_more (o := 0) (s := 1) k0 (rd_more (o := 1) (s := 1) k1 (rd_more (o := 2) (s := 1) k2 (rd_more (o := 3) (s := 1) k3 (rd_last (o := 4) (s := 1) k4 hl2))))), ⟨g0, g1, g2, g3, g4⟩⟩
theorem op26 {fuel : Nat} {cs : List Value} {x : DataW H × List MemPlace} (h : DataW.trod enc Try.prog w base spare held fuel 26 cs = some x) : ∃ a : XAscii, RepPs w (Here w) a.ps cs ∧ XAscii.Ok a := by
  obtain ⟨xs, n, rfl, _, hl, hlen, hf⟩ := DataW.trod_struct Try.underlying26 h
  have hl2 : cs.length = 4 := hl.trans (by kernel_rfl)
  clear h
  have f0 := hf 0 _ rfl
  rw [List.getElem?_eq_getElem (show 0 < xs.length by rw [hlen]; decide)] at f0
  obtain ⟨a0, k0, g0⟩ := op22 (cs := (cs.drop 0).take 1) (show DataW.trod enc Try.prog w base spare held n 22 ((cs.drop 0).take 1) = some _ from by rw [show (cs.drop 0).take 1 = (cs.drop 0).take (Try.prog.cellsOf 22) from congrArg (fun z => (cs.drop 0).take z) (by kernel_rfl)]; exact f0)
  have f1 := hf 1 _ rfl
  rw [List.getElem?_eq_getElem (show 1 < xs.length by rw [hlen]; decide)] at f1
  obtain ⟨a1, k1, g1⟩ := op4 (cs := (cs.drop 1).take 1) (show DataW.trod enc Try.prog w base spare held n 4 ((cs.drop 1).take 1) = some _ from by rw [show (cs.drop 1).take 1 = (cs.drop 1).take (Try.prog.cellsOf 4) from congrArg (fun z => (cs.drop 1).take z) (by kernel_rfl)]; exact f1)
  have f2 := hf 2 _ rfl
  rw [List.getElem?_eq_getElem (show 2 < xs.length by rw [hlen]; decide)] at f2
  obtain ⟨a2, k2, g2⟩ := op3 (cs := (cs.drop 2).take 1) (show DataW.trod enc Try.prog w base spare held n 3 ((cs.drop 2).take 1) = some _ from by rw [show (cs.drop 2).take 1 = (cs.drop 2).take (Try.prog.cellsOf 3) from congrArg (fun z => (cs.drop 2).take z) (by kernel_rfl)]; exact f2)
  have f3 := hf 3 _ rfl
  rw [List.getElem?_eq_getElem (show 3 < xs.length by rw [hlen]; decide)] at f3
  obtain ⟨a3, k3, g3⟩ := op3 (cs := (cs.drop 3).take 1) (show DataW.trod enc Try.prog w base spare held n 3 ((cs.drop 3).take 1) = some _ from by rw [show (cs.drop 3).take 1 = (cs.drop 3).take (Try.prog.cellsOf 3) from congrArg (fun z => (cs.drop 3).take z) (by kernel_rfl)]; exact f3)
  exact ⟨⟨a0, a1, a2, a3⟩, (rd_more (o := 0) (s := 1) k0 (rd_more (o := 1) (s := 1) k1 (rd_more (o := 2) (s := 1) k2 (rd_last (o := 3) (s := 1) k3 hl2)))), ⟨g0, g1, g2, g3⟩⟩
theorem op28 {fuel : Nat} {cs : List Value} {x : DataW H × List MemPlace} (h : DataW.trod enc Try.prog w base spare held fuel 28 cs = some x) : ∃ a : XStream, RepPs w (Here w) a.ps cs ∧ XStream.Ok a := by
  obtain ⟨xs, n, rfl, _, hl, hlen, hf⟩ := DataW.trod_struct Try.underlying28 h
  have hl2 : cs.length = 2 := hl.trans (by kernel_rfl)
  clear h
  have f0 := hf 0 _ rfl
  rw [List.getElem?_eq_getElem (show 0 < xs.length by rw [hlen]; decide)] at f0
  obtain ⟨a0, k0, g0⟩ := op22 (cs := (cs.drop 0).take 1) (show DataW.trod enc Try.prog w base spare held n 22 ((cs.drop 0).take 1) = some _ from by rw [show (cs.drop 0).take 1 = (cs.drop 0).take (Try.prog.cellsOf 22) from congrArg (fun z => (cs.drop 0).take z) (by kernel_rfl)]; exact f0)
  have f1 := hf 1 _ rfl
  rw [List.getElem?_eq_getElem (show 1 < xs.length by rw [hlen]; decide)] at f1
  obtain ⟨a1, k1, g1⟩ := op4 (cs := (cs.drop 1).take 1) (show DataW.trod enc Try.prog w base spare held n 4 ((cs.drop 1).take 1) = some _ from by rw [show (cs.drop 1).take 1 = (cs.drop 1).take (Try.prog.cellsOf 4) from congrArg (fun z => (cs.drop 1).take z) (by kernel_rfl)]; exact f1)
  exact ⟨⟨a0, a1⟩, (rd_more (o := 0) (s := 1) k0 (rd_last (o := 1) (s := 1) k1 hl2)), ⟨g0, g1⟩⟩
theorem op30 {fuel : Nat} {cs : List Value} {x : DataW H × List MemPlace} (h : DataW.trod enc Try.prog w base spare held fuel 30 cs = some x) : ∃ a : XPort, RepPs w (Here w) a.ps cs ∧ XPort.Ok a := by
  obtain ⟨xs, n, rfl, _, hl, hlen, hf⟩ := DataW.trod_struct Try.underlying30 h
  have hl2 : cs.length = 13 := hl.trans (by kernel_rfl)
  clear h
  have f0 := hf 0 _ rfl
  rw [List.getElem?_eq_getElem (show 0 < xs.length by rw [hlen]; decide)] at f0
  obtain ⟨a0, k0, g0⟩ := op3 (cs := (cs.drop 0).take 1) (show DataW.trod enc Try.prog w base spare held n 3 ((cs.drop 0).take 1) = some _ from by rw [show (cs.drop 0).take 1 = (cs.drop 0).take (Try.prog.cellsOf 3) from congrArg (fun z => (cs.drop 0).take z) (by kernel_rfl)]; exact f0)
  have f1 := hf 1 _ rfl
  rw [List.getElem?_eq_getElem (show 1 < xs.length by rw [hlen]; decide)] at f1
  obtain ⟨a1, k1, g1⟩ := op24 (cs := (cs.drop 1).take 5) (show DataW.trod enc Try.prog w base spare held n 24 ((cs.drop 1).take 5) = some _ from by rw [show (cs.drop 1).take 5 = (cs.drop 1).take (Try.prog.cellsOf 24) from congrArg (fun z => (cs.drop 1).take z) (by kernel_rfl)]; exact f1)
  have f2 := hf 2 _ rfl
  rw [List.getElem?_eq_getElem (show 2 < xs.length by rw [hlen]; decide)] at f2
  obtain ⟨a2, k2, g2⟩ := op26 (cs := (cs.drop 6).take 4) (show DataW.trod enc Try.prog w base spare held n 26 ((cs.drop 6).take 4) = some _ from by rw [show (cs.drop 6).take 4 = (cs.drop 6).take (Try.prog.cellsOf 26) from congrArg (fun z => (cs.drop 6).take z) (by kernel_rfl)]; exact f2)
  have f3 := hf 3 _ rfl
  rw [List.getElem?_eq_getElem (show 3 < xs.length by rw [hlen]; decide)] at f3
  obtain ⟨a3, k3, g3⟩ := op28 (cs := (cs.drop 10).take 2) (show DataW.trod enc Try.prog w base spare held n 28 ((cs.drop 10).take 2) = some _ from by rw [show (cs.drop 10).take 2 = (cs.drop 10).take (Try.prog.cellsOf 28) from congrArg (fun z => (cs.drop 10).take z) (by kernel_rfl)]; exact f3)
  have f4 := hf 4 _ rfl
  rw [List.getElem?_eq_getElem (show 4 < xs.length by rw [hlen]; decide)] at f4
  obtain ⟨a4, k4, g4⟩ := op3 (cs := (cs.drop 12).take 1) (show DataW.trod enc Try.prog w base spare held n 3 ((cs.drop 12).take 1) = some _ from by rw [show (cs.drop 12).take 1 = (cs.drop 12).take (Try.prog.cellsOf 3) from congrArg (fun z => (cs.drop 12).take z) (by kernel_rfl)]; exact f4)
  exact ⟨⟨a0, a1, a2, a3, a4⟩, (rd_more (o := 0) (s := 1) k0 (rd_more (o := 1) (s := 5) k1 (rd_more (o := 6) (s := 4) k2 (rd_more (o := 10) (s := 2) k3 (rd_last (o := 12) (s := 1) k4 hl2))))), ⟨g0, g1, g2, g3, g4⟩⟩
end
set_option maxRecDepth 100000 in
theorem lifted (os : Os) (started : os.Started) (H : Type) (enc : TypeId × Value → H) :
    ReturnsInHanded {} Try.checked os 4 .any (Rows.fnExactPortHearSpec.pre6 enc Try.prog Try.f4 Rows.fnExactPortHearRow.domain false) (Rows.fnExactPortHearSpec.post enc Try.prog Try.f4 false true false false) := by
  refine returnsInHanded_of_change_sized (C := Try.checked) own started (by kernel_rfl) Try.func4
    (ChangeSpec.witness6 (enc := enc) (C := Try.checked) false ⟨#[], #[.agg #[.int .i64 0, .slice none 0 0, .int .i64 0, .bool false, .int .i64 0, .int .i64 0, .slice none 0 0, .bool false, .int .i64 0, .int .i64 0, .slice none 0 0, .bool false, .int .i64 0], .slice none 0 0, .int .i64 0], []⟩ 8 (by kernel_rfl) (by kernel_rfl) (by kernel_rfl) (by kernel_rfl)) ?_
  intro W base args ds gs before hval0 hW hcnd hsz0 _
  have hval : ∀ (j : Nat) t v, Try.f4.params[j]? = some t → args[j]? = some v → Value.okWide Try.prog W .any base t v := hval0
  have hW' := hW
  obtain ⟨p, q, hA0, hV, rfl, hfz, hnd⟩ := hW
  have hA : DataW.TrodAll enc Try.prog W 0 (fun _ => true) true Try.f4.params.toList args.toList ds p := hA0
  rw [Try.params4] at hA hval
  obtain ⟨v0, vs0, d0, ds0, p0, q0, hargs, rfl, rfl, h0, r0⟩ := trodAll_cons hA
  obtain ⟨v1, vs1, d1, ds1, p1, q1, rfl, rfl, rfl, h1, r1⟩ := trodAll_cons r0
  obtain ⟨v2, vs2, d2, ds2, p2, q2, rfl, rfl, rfl, h2, r2⟩ := trodAll_cons r1
  obtain ⟨rfl, rfl, rfl⟩ := trodAll_nil r2
  obtain rfl : args = #[v0, v1, v2] := by cases args; simp_all
  obtain ⟨rfl, rfl⟩ := trodVars_none hV
  obtain ⟨cs0, rfl, hs0⟩ := okWide_struct Try.underlying30 (hval 0 30 v0 rfl rfl)
  have k0 := h0
  have lt0 : ∀ x ∈ p0, x.block < W.heap.size := by obtain ⟨m, hm⟩ := k0; exact DataW.trod_lt m _ _ _ hm
  obtain ⟨fuel0, hf0⟩ := h0
  obtain ⟨x0, K0, g0⟩ := op30 hf0
  obtain ⟨a1, len1, cap1, rfl⟩ := okWide_slice Try.underlying22 (hval 1 22 v1 rfl rfl)
  have k1 := h1
  have lt1 : ∀ x ∈ p1, x.block < W.heap.size := by obtain ⟨m, hm⟩ := k1; exact DataW.trod_lt m _ _ _ hm
  obtain ⟨fuel1, hf1⟩ := h1
  obtain ⟨x1, K1, g1⟩ := op22 hf1
  obtain ⟨x2, rfl, rfl, rfl, g2⟩ := open_int Try.underlying3 (hval 2 3 v2 rfl rfl) h2
  clear hA0 hval0 hsz0
  refine ((law_FnExactPortHear x0 g0 x1 g1 x2 g2).law (w := W) (repVs_cons (rep_agg K0) (repVs_cons (rep_one K1 rfl) (repVs_cons (Rep.int .i64 x2) repVs_nil)))).mono fun e W' he0 => ?_
  obtain ⟨he, bel⟩ := he0
  subst he
  exact ⟨_, rfl, _, _, _, [], _, [], hW', trodAll_mk1 (shut_bool Try.underlying4 _), (trodAll_cons_mk (Below.trod laidOut (by kernel_rfl) (of_decide_eq_true (by kernel_rfl)) k0 bel lt0) (trodAll_cons_mk (Below.trod laidOut (by kernel_rfl) (of_decide_eq_true (by kernel_rfl)) k1 bel lt1) (trodAll_cons_mk (shut_int Try.underlying3 g2) trodAll_mk0))), rfl, bel.frame _, fun h => by cases h⟩
theorem over : Rows.fnExactPortHearRow.holds Try.pinned (OpenSpec.ofChange Rows.fnExactPortHearSpec) :=
  OpenClaim.holds_of_wide 4 Try.f4 rfl rfl rfl rfl rfl rfl rfl ⟨rfl, rfl, rfl, rfl, rfl⟩ rfl rfl rfl rfl rfl (by kernel_rfl) Try.func4 (by kernel_rfl)
    (of_decide_eq_true (by kernel_rfl)) (by unfold Func.isWrapper; first | (rw [if_pos (by decide +kernel)]; kernel_rfl) | (rw [if_neg (by decide +kernel)]; exact ⟨rfl, rfl⟩))
    (fun os started H enc _ => lifted os started H enc)
theorem proved : Rows.FnExactPortHearSaid := over
#print axioms proved
end Go.Proofs.Ytoccphgempbdeaa.fnExactPortHear
namespace Go.Proofs.Ytoccphgempbdeaa
/-- The row, under a short name, for the claim. -/
theorem fnExactPortHear_holds : Rows.FnExactPortHearSaid := fnExactPortHear.proved
end Go.Proofs.Ytoccphgempbdeaa
