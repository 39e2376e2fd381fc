/- The pure statement of the law FnExactAsciiOk: with rounds enough it tells true of every argument that can be read. Its parts: what the printed functions tell. -/
import Derived.Test.YtjjfjeoajhdlcaaPFnExactAsciiOkx
import Derived.Test.YtjjfjeoajhdlcaaWPure
set_option linter.unusedVariables false
set_option linter.unusedSimpArgs false
namespace Go.Proofs.Ytjjfjeoajhdlcaa.Pure
open Go.RowKit Go.Proofs.Ytjjfjeoajhdlcaa.PFnExactAsciiOk Go.Proofs.YtjjfjeoajhdlcaaW.PrintWords Go.Proofs.YtjjfjeoajhdlcaaW.PrintLast Go.Proofs.YtjjfjeoajhdlcaaW.Pure

theorem laws_toByteS_ev (l : List Int) (hl : l.length ≤ 1048576) : Ev (fun k => laws_toByteS.f k l) l := by
  simp only [laws_toByteS.f]
  refine Ev.pos (by omega) (Ev.pos (by omega) ?_)
  have h := copy_ev laws_toByteS.l0 l 0 (by omega) (fun a i hi ha h => Ev.step (fun k => by
    simp only [laws_toByteS.l0]
    rw [if_pos (by omega), if_pos (by omega), if_pos (by omega), Int.toNat_natCast, rd_nat l i hi]) h) (fun a k => by
    simp only [laws_toByteS.l0]
    rw [if_neg (by omega)])
  simpa using h

theorem laws_eqByteS_ev (l : List Int) (hl : l.length ≤ 4611686018427387904) : Ev (fun k => laws_eqByteS.f k l l) true := by
  simp only [laws_eqByteS.f]
  refine Ev.pos (by first | trivial | rfl) ?_
  exact same_ev (fun k i => laws_eqByteS.l0 k l l i) l hl (fun i hi h => Ev.step (fun k => by
    simp only [laws_eqByteS.l0]
    rw [if_pos (by omega), if_pos (by omega), if_pos (by omega), if_pos trivial]) h) (fun k => by
    simp only [laws_eqByteS.l0]
    rw [if_neg (by omega)])

theorem laws_szByteS_ok (l : List Int) (left : Int) (h0 : 0 ≤ left) (h1 : left ≤ 1048576) (hl : l.length ≤ 9223372036854775807) : ∃ r, laws_szByteS.f l left = some r ∧ (0 ≤ r → r ≤ left ∧ l.length ≤ 1048576) := by
  simp only [laws_szByteS.f]
  rw [wrap_id (by omega) (by omega)]
  split
  · exact ⟨_, rfl, fun h => by omega⟩
  · exact ⟨_, rfl, fun h => by omega⟩

theorem laws_szAscii_ok (x0 : List Int) (x1 : Bool) (x2 : Int) (x3 : Int) (left : Int) (h0 : 0 ≤ left) (h1 : left ≤ 1048576) (hl0 : x0.length ≤ 9223372036854775807) : ∃ r, laws_szAscii.f x0 x1 x2 x3 left = some r ∧ (0 ≤ r → r ≤ left ∧ x0.length ≤ 1048576) := by
  simp only [laws_szAscii.f]
  obtain ⟨r0, e0, k0⟩ := laws_szByteS_ok x0 left (by omega) (by omega) hl0
  rw [e0]
  simp only [Option.bind_some]
  by_cases c0 : r0 < 0
  · rw [if_pos c0]
    exact ⟨_, rfl, fun h => by omega⟩
  rw [if_neg c0]
  have k0' := k0 (by omega)
  exact ⟨_, rfl, fun h => by omega⟩

theorem laws_toAscii_ev (x0 : List Int) (x1 : Bool) (x2 : Int) (x3 : Int) (hl0 : x0.length ≤ 1048576) : Ev (fun k => laws_toAscii.f k x0 x1 x2 x3) (x0, x1, x2, x3) := by
  simp only [laws_toAscii.f]
  refine Ev.bind (laws_toByteS_ev x0 hl0) ?_
  try dsimp only
  exact Ev.now _

theorem laws_eqAscii_ev (x0 : List Int) (x1 : Bool) (x2 : Int) (x3 : Int) (hl0 : x0.length ≤ 4611686018427387904) : Ev (fun k => laws_eqAscii.f k x0 x1 x2 x3 x0 x1 x2 x3) true := by
  cases x1 <;> (
  simp only [laws_eqAscii.f]
  repeat (first
    | exact Ev.now _
    | refine Ev.pos trivial ?_
    | refine Ev.pos rfl ?_
    | refine Ev.neg (by decide) ?_
    | (refine Ev.bind (laws_eqByteS_ev x0 hl0) ?_; try dsimp only)))

theorem spec_l1In_eq (a b c : Int) : spec_l1In.f a b c = some (decide (b ≤ a ∧ a ≤ c)) := by
  simp only [spec_l1In.f]
  split
  · congr 1; simp only [decide_eq_decide]; omega
  · congr 1; symm; simp only [decide_eq_false_iff_not]; omega

theorem impl_in_eq (a b c : Int) : impl_in.f a b c = some (decide (b ≤ a ∧ a ≤ c)) := by
  simp only [impl_in.f]
  split
  · congr 1; simp only [decide_eq_decide]; omega
  · congr 1; symm; simp only [decide_eq_false_iff_not]; omega

theorem spec_l1Tick_eq (a : Int) : spec_l1Tick.f a = some (decide (0 ≤ a ∧ a ≤ 4294967295)) := by
  simp only [spec_l1Tick.f, spec_l1In_eq, Option.bind_some]

theorem impl_isTick_eq (a : Int) : impl_isTick.f a = some (decide (0 ≤ a ∧ a ≤ 4294967295)) := by
  simp only [impl_isTick.f, impl_in_eq, Option.bind_some]

theorem AsciiOk_same (l : List Int) (b : Bool) (i j : Int) : impl_AsciiOk.f l b i j = spec_AsciiOk.f l b i j := by
  simp only [impl_AsciiOk.f, spec_AsciiOk.f, impl_isTick_eq, impl_in_eq, spec_l1In_eq, spec_l1Tick_eq, Option.bind_some]
  by_cases h1 : (l.length : Int) ≤ 600
  · by_cases h2 : 0 ≤ i ∧ i ≤ 4294967295
    · by_cases h3 : 1 ≤ j ∧ j ≤ 1000
      · simp [h1, h2, h3, show ¬ (600 < l.length) by omega, show ¬ (600 < (l.length : Int)) by omega]
      · simp [h1, h2, h3, show ¬ (600 < l.length) by omega, show ¬ (600 < (l.length : Int)) by omega]
    · by_cases h3 : 1 ≤ j ∧ j ≤ 1000
      · simp [h1, h2, h3, show ¬ (600 < l.length) by omega, show ¬ (600 < (l.length : Int)) by omega]
      · simp [h1, h2, h3, show ¬ (600 < l.length) by omega, show ¬ (600 < (l.length : Int)) by omega]
  · by_cases h3 : 1 ≤ j ∧ j ≤ 1000
    · simp [h1, h3, show 600 < l.length by omega, show 600 < (l.length : Int) by omega]
    · simp [h1, h3, show 600 < l.length by omega, show 600 < (l.length : Int) by omega]
theorem AsciiOk_some (l : List Int) (b : Bool) (i j : Int) : ∃ r, spec_AsciiOk.f l b i j = some r := by
  simp only [spec_AsciiOk.f, spec_l1In_eq, spec_l1Tick_eq, Option.bind_some]
  repeat' split
  all_goals first | exact ⟨_, rfl⟩ | (exfalso; omega)

theorem FnExactAsciiOk : laws_FnExactAsciiOk.Pure := by
  intro x0 x1 x2 x3 w0 w2 w3
  refine Ev.rounds (g := fun k => laws_FnExactAsciiOk.f k x0 x1 x2 x3) ?_
  simp only [laws_FnExactAsciiOk.f]
  obtain ⟨r, er, hr⟩ := laws_szAscii_ok x0 x1 x2 x3 1048576 (by omega) (by omega) w0.1
  refine Ev.then er ?_
  refine Ev.ite (fun _ => Ev.now _) (fun hn => ?_)
  have hr' := hr (by omega)
  obtain ⟨q, eq⟩ := AsciiOk_some x0 x1 x2 x3
  have eq2 : impl_AsciiOk.f x0 x1 x2 x3 = some q := (AsciiOk_same x0 x1 x2 x3).trans eq
  refine Ev.bind (laws_toAscii_ev x0 x1 x2 x3 (by omega)) ?_
  try dsimp only
  refine Ev.then eq ?_
  refine Ev.bind (laws_toAscii_ev x0 x1 x2 x3 (by omega)) ?_
  try dsimp only
  refine Ev.then eq2 ?_
  cases q <;> (
  repeat (first
    | exact Ev.now _
    | refine Ev.pos rfl ?_
    | refine Ev.neg (by decide) ?_
    | (refine Ev.bind (laws_toAscii_ev x0 x1 x2 x3 (by omega)) ?_; try dsimp only)
    | (refine Ev.bind (laws_eqAscii_ev x0 x1 x2 x3 (by omega)) ?_; try dsimp only)))

end Go.Proofs.Ytjjfjeoajhdlcaa.Pure
