/- The row of the law FnExactConfigText: for every input that can be read, the call returns true and the arguments read as before. -/
import Derived.Test.YtfpcgomngnfdeaaDoorRows
import Derived.Test.YtfpcgomngnfdeaaDoorXText
import Derived.Test.YtfpcgomngnfdeaaDoorViZ
import Derived.WalkKit
import Derived.ProofKit
import Derived.OpenShut
import Derived.ShutString
import Derived.ChangeOld
import Derived.Below
import Derived.SizedLaws
import Derived.Test.YtfpcgomngnfdeaaDoorCards
import Derived.Test.YtfpcgomngnfdeaaDoorTie
import Derived.Deep.DeepHandedRow
import Derived.Lib.LaidTab
import Derived.Stop.LaidErr
import Derived.LaidLaws
namespace Go.Proofs.YtfpcgomngnfdeaaDoor.fnExactConfigText
open Go Go.Vi Go.ChangeShapes Go.WideShapes Go.ChangeAt Go.RowKit
open Go.ChangeMaps (open_string shut_string)
open Go.Proofs.YtfpcgomngnfdeaaDoor
set_option linter.unusedVariables false
set_option linter.unusedSimpArgs false
theorem own : ownKnob Tryd.prog.godebug = none := by kernel_rfl
theorem laidOut : laidOutB Tryd.prog = true := by kernel_rfl
section
variable {H : Type} {enc : TypeId × Value → H} {w : World} {base : Nat} {spare : Nat → Bool} {held : Bool}
theorem op3 {fuel : Nat} {cs : List Value} {x : DataW H × List MemPlace} (h : DataW.trod enc Tryd.prog w base spare held fuel 3 cs = some x) : ∃ a : Int, RepPs w (Here w) [.int .i64 a] cs ∧ (Lit.int .i64 a).wf = true := rd_int Tryd.underlying3 h
theorem op71 {fuel : Nat} {cs : List Value} {x : DataW H × List MemPlace} (h : DataW.trod enc Tryd.prog w base spare held fuel 71 cs = some x) : ∃ a : XRule, RepPs w (Here w) a.ps cs ∧ XRule.Ok a := by
  obtain ⟨xs, n, rfl, _, hl, hlen, hf⟩ := DataW.trod_struct Tryd.underlying71 h
  have hl2 : cs.length = 7 := hl.trans (by kernel_rfl)
  clear h
  have f0 := hf 0 _ rfl
  rw [List.getElem?_eq_getElem (show 0 < xs.length by rw [hlen]; decide)] at f0
  obtain ⟨a0, k0, g0⟩ := op3 (cs := (cs.drop 0).take 1) (show DataW.trod enc Tryd.prog w base spare held n 3 ((cs.drop 0).take 1) = some _ from by rw [show (cs.drop 0).take 1 = (cs.drop 0).take (Tryd.prog.cellsOf 3) from congrArg (fun z => (cs.drop 0).take z) (by kernel_rfl)]; exact f0)
  have f1 := hf 1 _ rfl
  rw [List.getElem?_eq_getElem (show 1 < xs.length by rw [hlen]; decide)] at f1
  obtain ⟨a1, k1, g1⟩ := op3 (cs := (cs.drop 1).take 1) (show DataW.trod enc Tryd.prog w base spare held n 3 ((cs.drop 1).take 1) = some _ from by rw [show (cs.drop 1).take 1 = (cs.drop 1).take (Tryd.prog.cellsOf 3) from congrArg (fun z => (cs.drop 1).take z) (by kernel_rfl)]; exact f1)
  have f2 := hf 2 _ rfl
  rw [List.getElem?_eq_getElem (show 2 < xs.length by rw [hlen]; decide)] at f2
  obtain ⟨a2, k2, g2⟩ := op3 (cs := (cs.drop 2).take 1) (show DataW.trod enc Tryd.prog w base spare held n 3 ((cs.drop 2).take 1) = some _ from by rw [show (cs.drop 2).take 1 = (cs.drop 2).take (Tryd.prog.cellsOf 3) from congrArg (fun z => (cs.drop 2).take z) (by kernel_rfl)]; exact f2)
  have f3 := hf 3 _ rfl
  rw [List.getElem?_eq_getElem (show 3 < xs.length by rw [hlen]; decide)] at f3
  obtain ⟨a3, k3, g3⟩ := op3 (cs := (cs.drop 3).take 1) (show DataW.trod enc Tryd.prog w base spare held n 3 ((cs.drop 3).take 1) = some _ from by rw [show (cs.drop 3).take 1 = (cs.drop 3).take (Tryd.prog.cellsOf 3) from congrArg (fun z => (cs.drop 3).take z) (by kernel_rfl)]; exact f3)
  have f4 := hf 4 _ rfl
  rw [List.getElem?_eq_getElem (show 4 < xs.length by rw [hlen]; decide)] at f4
  obtain ⟨a4, k4, g4⟩ := op3 (cs := (cs.drop 4).take 1) (show DataW.trod enc Tryd.prog w base spare held n 3 ((cs.drop 4).take 1) = some _ from by rw [show (cs.drop 4).take 1 = (cs.drop 4).take (Tryd.prog.cellsOf 3) from congrArg (fun z => (cs.drop 4).take z) (by kernel_rfl)]; exact f4)
  have f5 := hf 5 _ rfl
  rw [List.getElem?_eq_getElem (show 5 < xs.length by rw [hlen]; decide)] at f5
  obtain ⟨a5, k5, g5⟩ := op3 (cs := (cs.drop 5).take 1) (show DataW.trod enc Tryd.prog w base spare held n 3 ((cs.drop 5).take 1) = some _ from by rw [show (cs.drop 5).take 1 = (cs.drop 5).take (Tryd.prog.cellsOf 3) from congrArg (fun z => (cs.drop 5).take z) (by kernel_rfl)]; exact f5)
  have f6 := hf 6 _ rfl
  rw [List.getElem?_eq_getElem (show 6 < xs.length by rw [hlen]; decide)] at f6
  obtain ⟨a6, k6, g6⟩ := op3 (cs := (cs.drop 6).take 1) (show DataW.trod enc Tryd.prog w base spare held n 3 ((cs.drop 6).take 1) = some _ from by rw [show (cs.drop 6).take 1 = (cs.drop 6).take (Tryd.prog.cellsOf 3) from congrArg (fun z => (cs.drop 6).take z) (by kernel_rfl)]; exact f6)
  exact ⟨⟨a0, a1, a2, a3, a4, a5, a6⟩, (rd_more (o := 0) (s := 1) k0 (rd_more (o := 1) (s := 1) k1 (rd_more (o := 2) (s := 1) k2 (rd_more (o := 3) (s := 1) k3 (rd_more (o := 4) (s := 1) k4 (rd_more (o := 5) (s := 1) k5 (rd_last (o := 6) (s := 1) k6 hl2))))))), ⟨g0, g1, g2, g3, g4, g5, g6⟩⟩
theorem op30 {fuel : Nat} {cs : List Value} {x : DataW H × List MemPlace} (h : DataW.trod enc Tryd.prog w base spare held fuel 30 cs = some x) : ∃ a : List XRule, RepPs w (Here w) [XRule.sP a] cs ∧ (∀ q0, q0 ∈ a → XRule.Ok q0) := rd_slice XRule.zero (f := XRule.ps) (sz := 7) Tryd.underlying30 (by kernel_rfl) (by decide) (fun _ => rfl) (fun _ _ _ h => op71 h) h
theorem op32 {fuel : Nat} {cs : List Value} {x : DataW H × List MemPlace} (h : DataW.trod enc Tryd.prog w base spare held fuel 32 cs = some x) : ∃ a : XConfig, RepPs w (Here w) a.ps cs ∧ XConfig.Ok a := by
  obtain ⟨xs, n, rfl, _, hl, hlen, hf⟩ := DataW.trod_struct Tryd.underlying32 h
  have hl2 : cs.length = 3 := hl.trans (by kernel_rfl)
  clear h
  have f0 := hf 0 _ rfl
  rw [List.getElem?_eq_getElem (show 0 < xs.length by rw [hlen]; decide)] at f0
  obtain ⟨a0, k0, g0⟩ := op3 (cs := (cs.drop 0).take 1) (show DataW.trod enc Tryd.prog w base spare held n 3 ((cs.drop 0).take 1) = some _ from by rw [show (cs.drop 0).take 1 = (cs.drop 0).take (Tryd.prog.cellsOf 3) from congrArg (fun z => (cs.drop 0).take z) (by kernel_rfl)]; exact f0)
  have f1 := hf 1 _ rfl
  rw [List.getElem?_eq_getElem (show 1 < xs.length by rw [hlen]; decide)] at f1
  obtain ⟨a1, k1, g1⟩ := op3 (cs := (cs.drop 1).take 1) (show DataW.trod enc Tryd.prog w base spare held n 3 ((cs.drop 1).take 1) = some _ from by rw [show (cs.drop 1).take 1 = (cs.drop 1).take (Tryd.prog.cellsOf 3) from congrArg (fun z => (cs.drop 1).take z) (by kernel_rfl)]; exact f1)
  have f2 := hf 2 _ rfl
  rw [List.getElem?_eq_getElem (show 2 < xs.length by rw [hlen]; decide)] at f2
  obtain ⟨a2, k2, g2⟩ := op30 (cs := (cs.drop 2).take 1) (show DataW.trod enc Tryd.prog w base spare held n 30 ((cs.drop 2).take 1) = some _ from by rw [show (cs.drop 2).take 1 = (cs.drop 2).take (Tryd.prog.cellsOf 30) from congrArg (fun z => (cs.drop 2).take z) (by kernel_rfl)]; exact f2)
  exact ⟨⟨a0, a1, a2⟩, (rd_more (o := 0) (s := 1) k0 (rd_more (o := 1) (s := 1) k1 (rd_last (o := 2) (s := 1) k2 hl2))), ⟨g0, g1, g2⟩⟩
end
theorem gTab : Tryd.prog.globalNamed "internal/strconv.uint64pow10" = some 1 := by kernel_rfl
theorem gTabType : (Tryd.prog.globals[1]?).map (·.type) = some 112 := by kernel_rfl
theorem cellsT : Tryd.prog.cellsOf 112 = 20 := by kernel_rfl
theorem cellsE : Tryd.prog.cellsOf 99 = 1 := by kernel_rfl
theorem laidAt {W : World} (h0 : laidMetH Tryd.prog Rows.fnExactConfigTextRow.laid W) : Laid W := by
  have h : laidMet Tryd.prog Rows.fnExactConfigTextRow.laid W := h0
  have ht : Lib.TabIs Tryd.prog W "internal/strconv.uint64pow10" .u64 pow10L := Lib.tabIs_of_head gTab gTabType Tryd.underlying112 Tryd.underlying99 cellsE cellsT (laidMet.tail (laidMet.tail h))
  unfold Lib.TabIs World.var? at ht
  rw [gTab] at ht
  simp only [Option.bind_some] at ht
  split at ht
  · rename_i cs t fl hh
    cases ht
    exact ⟨(Array.getElem?_eq_some_iff.1 hh).1, t, fl, hh⟩
  · cases ht
noncomputable def laidWorld (os : Os) : World :=
  { World.holding Tryd.prog os ⟨#[], #[], []⟩ with heap := ((((World.holding Tryd.prog os ⟨#[], #[], []⟩).heap.modify 6 fun
      | .cells _ t fr => .cells #[.int .u8 0, .int .u8 1, .int .u8 28, .int .u8 2, .int .u8 29, .int .u8 14, .int .u8 24, .int .u8 3, .int .u8 30, .int .u8 22, .int .u8 20, .int .u8 15, .int .u8 25, .int .u8 17, .int .u8 4, .int .u8 8, .int .u8 31, .int .u8 27, .int .u8 13, .int .u8 23, .int .u8 21, .int .u8 19, .int .u8 16, .int .u8 7, .int .u8 26, .int .u8 12, .int .u8 18, .int .u8 6, .int .u8 11, .int .u8 5, .int .u8 10, .int .u8 9] t fr
      | o => o).modify 7 fun
      | .cells _ t fr => .cells #[.int .u8 0, .int .u8 1, .int .u8 56, .int .u8 2, .int .u8 57, .int .u8 49, .int .u8 28, .int .u8 3, .int .u8 61, .int .u8 58, .int .u8 42, .int .u8 50, .int .u8 38, .int .u8 29, .int .u8 17, .int .u8 4, .int .u8 62, .int .u8 47, .int .u8 59, .int .u8 36, .int .u8 45, .int .u8 43, .int .u8 51, .int .u8 22, .int .u8 53, .int .u8 39, .int .u8 33, .int .u8 30, .int .u8 24, .int .u8 18, .int .u8 12, .int .u8 5, .int .u8 63, .int .u8 55, .int .u8 48, .int .u8 27, .int .u8 60, .int .u8 41, .int .u8 37, .int .u8 16, .int .u8 46, .int .u8 35, .int .u8 44, .int .u8 21, .int .u8 52, .int .u8 32, .int .u8 23, .int .u8 11, .int .u8 54, .int .u8 26, .int .u8 40, .int .u8 15, .int .u8 34, .int .u8 20, .int .u8 31, .int .u8 10, .int .u8 25, .int .u8 14, .int .u8 19, .int .u8 9, .int .u8 13, .int .u8 8, .int .u8 7, .int .u8 6] t fr
      | o => o).modify 1 fun
      | .cells _ t fr => .cells #[.int .u64 1, .int .u64 10, .int .u64 100, .int .u64 1000, .int .u64 10000, .int .u64 100000, .int .u64 1000000, .int .u64 10000000, .int .u64 100000000, .int .u64 1000000000, .int .u64 10000000000, .int .u64 100000000000, .int .u64 1000000000000, .int .u64 10000000000000, .int .u64 100000000000000, .int .u64 1000000000000000, .int .u64 10000000000000000, .int .u64 100000000000000000, .int .u64 1000000000000000000, .int .u64 10000000000000000000] t fr
      | o => o) }
theorem laid_met (os : Os) : laidMet Tryd.prog Rows.fnExactConfigTextRow.laid ((laidWorld os).forCall (fun _ _ => 0) ⟨#[], #[.agg #[.int .i64 0, .int .i64 0, .slice none 0 0]], []⟩).memory := laidMet_of_run' 8 (by kernel_rfl) (by kernel_rfl)
theorem reads (os : Os) {H : Type} (enc : TypeId × Value → H) : ∃ places, DataW.whole enc Tryd.prog ((laidWorld os).forCall (fun _ _ => 0) ⟨#[], #[.agg #[.int .i64 0, .int .i64 0, .slice none 0 0]], []⟩).memory Tryd.f4.params.toList Rows.fnExactConfigTextSpec.vars false (#[.agg #[.int .i64 0, .int .i64 0, .slice none 0 0]] : Array Value).toList 8 = some ([.agg [.lit (.int .i64 0), .lit (.int .i64 0), .nil]], [], places) := ⟨[], by kernel_rfl⟩
set_option maxRecDepth 100000 in
theorem lifted (os : Os) (started : os.Started) (H : Type) (enc : TypeId × Value → H) (F : Stop.Interp) :
    ReturnsInHanded {} Tryd.checked os 4 .any ((OpenSpec.ofChange Rows.fnExactConfigTextSpec).preRow enc Tryd.prog Tryd.f4 Rows.fnExactConfigTextRow.domain false Rows.fnExactConfigTextRow.laid) (((OpenSpec.ofChange Rows.fnExactConfigTextSpec).at F).post enc Tryd.prog Tryd.f4 false true false false) := by
  obtain ⟨places, hx⟩ := reads os enc
  refine returnsInHanded_of_row (C := Tryd.checked) (s := OpenSpec.ofChange Rows.fnExactConfigTextSpec) own started (by kernel_rfl) Tryd.func4
    (witness_row_at (enc := enc) (C := Tryd.checked) false (laidWorld os) #[.agg #[.int .i64 0, .int .i64 0, .slice none 0 0]] rfl (by kernel_rfl) (by kernel_rfl) (by kernel_rfl)
      (OpenSpec.preRow_of_cond 8 hx (by kernel_rfl) (fun k hk => by cases hk) (by kernel_rfl) (laid_met os))) ?_
  intro W base args ds gs before hval0 hW hcnd _ hsz0 hL _ _
  have hq := laidAt hL
  have hval : ∀ (j : Nat) t v, Tryd.f4.params[j]? = some t → args[j]? = some v → Value.okWide Tryd.prog W .any base t v := hval0
  have hW' := hW
  obtain ⟨p, q, hA0, hV, rfl, hfz, hnd⟩ := hW
  have hA : DataW.TrodAll enc Tryd.prog W 0 (fun _ => true) true Tryd.f4.params.toList args.toList ds p := hA0
  rw [Tryd.params4] at hA hval
  obtain ⟨v0, vs0, d0, ds0, p0, q0, hargs, rfl, rfl, h0, r0⟩ := trodAll_cons hA
  obtain ⟨rfl, rfl, rfl⟩ := trodAll_nil r0
  obtain rfl : args = #[v0] := by cases args; simp_all
  obtain ⟨rfl, rfl⟩ := trodVars_none hV
  obtain ⟨cs0, rfl, hs0⟩ := okWide_struct Tryd.underlying32 (hval 0 32 v0 rfl rfl)
  have k0 := h0
  have lt0 : ∀ x ∈ p0, x.block < W.heap.size := by obtain ⟨m, hm⟩ := k0; exact DataW.trod_lt m _ _ _ hm
  obtain ⟨fuel0, hf0⟩ := h0
  obtain ⟨x0, K0, g0⟩ := op32 hf0
  clear hA0 hval0 hsz0
  refine ((law_FnExactConfigText x0 g0).law (w := W) (repVs_cons (rep_agg K0) repVs_nil) hq).mono fun e W' he0 => ?_
  obtain ⟨he, bel⟩ := he0
  subst he
  exact ⟨_, rfl, _, _, _, [], _, [], hW', trodAll_mk1 (shut_bool Tryd.underlying4 _), (trodAll_cons_mk (Below.trod laidOut (by kernel_rfl) (of_decide_eq_true (by kernel_rfl)) k0 bel lt0) trodAll_mk0), rfl, bel.frame _, fun h => by cases h⟩
theorem over : Rows.fnExactConfigTextRow.holds Tryd.pinned (OpenSpec.ofChange Rows.fnExactConfigTextSpec) :=
  OpenClaim.holds_of_cond 4 Tryd.f4 rfl rfl rfl rfl rfl rfl rfl ⟨rfl, rfl, rfl, rfl, rfl⟩ rfl rfl rfl rfl rfl (by kernel_rfl) Tryd.func4 (by kernel_rfl)
    (of_decide_eq_true (by kernel_rfl)) (by unfold Func.isWrapper; first | (rw [if_pos (by decide +kernel)]; kernel_rfl) | (rw [if_neg (by decide +kernel)]; exact ⟨rfl, rfl⟩))
    (fun os started H enc _ F => by rw [OpenClaim.pre_eq_preRow]; exact lifted os started H enc F)
theorem plain (f : FuncId) (fn : Func) (hf : Tryd.pinned.checked.prog.funcNamed "loop.example/g00129/laws.FnExactConfigText" = some f) (hfn : Tryd.pinned.checked.prog.funcs[f]? = some fn) :
    true = Tryd.pinned.checked.prog.looks [] ∧ ∀ (j : Nat) t, fn.params[j]? = some t → Tryd.pinned.checked.prog.wantsStandIn t = false := by
  obtain rfl : f = 4 := Option.some.inj ((show Tryd.prog.funcNamed "loop.example/g00129/laws.FnExactConfigText" = some 4 by kernel_rfl).symm.trans hf) |>.symm
  obtain rfl : fn = Tryd.f4 := (Option.some.inj (Tryd.func4.symm.trans hfn)).symm
  refine ⟨by kernel_rfl, fun j t ht => ?_⟩
  rw [Tryd.params4] at ht
  have hm := Array.mem_of_getElem? ht
  simp only [List.mem_toArray, List.mem_cons, List.not_mem_nil, or_false] at hm
  obtain rfl := hm
  exact (show Tryd.prog.wantsStandIn 32 = false by kernel_rfl)
theorem card : Rows.FnExactConfigTextCardSaid :=
  Claim7.holds_tied_plain_at .later [] _ _ _ _ over (fun _ h => by cases h) (by kernel_rfl) (fun _ h => by cases h) fnExactConfigText_row_tie rfl ⟨rfl, rfl⟩ (by kernel_rfl) rfl plain (by kernel_rfl)
#print axioms card
end Go.Proofs.YtfpcgomngnfdeaaDoor.fnExactConfigText
namespace Go.Proofs.YtfpcgomngnfdeaaDoor
/-- The card, under a short name, for the claim. -/
theorem fnExactConfigText_holds : Rows.FnExactConfigTextCardSaid := fnExactConfigText.card
end Go.Proofs.YtfpcgomngnfdeaaDoor
