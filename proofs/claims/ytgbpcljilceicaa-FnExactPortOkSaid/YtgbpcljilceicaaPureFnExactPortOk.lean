/- The pure statement of the law FnExactPortOk: with rounds enough it tells true of every argument that can be read. Its parts: what the printed functions tell. -/
import Derived.Test.YtgbpcljilceicaaPFnExactPortOkx
import Derived.Test.YtgbpcljilceicaaWPure
set_option linter.unusedVariables false
set_option linter.unusedSimpArgs false
namespace Go.Proofs.Ytgbpcljilceicaa.Pure
open Go.RowKit Go.Proofs.Ytgbpcljilceicaa.PFnExactPortOk Go.Proofs.YtgbpcljilceicaaW.PrintWords Go.Proofs.YtgbpcljilceicaaW.PrintLast Go.Proofs.YtgbpcljilceicaaW.Pure

theorem laws_toByteS_ev (l : List Int) (hl : l.length ≤ 1048576) : Ev (fun k => laws_toByteS.f k l) l := by
  simp only [laws_toByteS.f]
  refine Ev.pos (by omega) (Ev.pos (by omega) ?_)
  have h := copy_ev laws_toByteS.l0 l 0 (by omega) (fun a i hi ha h => Ev.step (fun k => by
    simp only [laws_toByteS.l0]
    rw [if_pos (by omega), if_pos (by omega), if_pos (by omega), Int.toNat_natCast, rd_nat l i hi]) h) (fun a k => by
    simp only [laws_toByteS.l0]
    rw [if_neg (by omega)])
  simpa using h

theorem laws_eqByteS_ev (l : List Int) (hl : l.length ≤ 4611686018427387904) : Ev (fun k => laws_eqByteS.f k l l) true := by
  simp only [laws_eqByteS.f]
  refine Ev.pos (by first | trivial | rfl) ?_
  exact same_ev (fun k i => laws_eqByteS.l0 k l l i) l hl (fun i hi h => Ev.step (fun k => by
    simp only [laws_eqByteS.l0]
    rw [if_pos (by omega), if_pos (by omega), if_pos (by omega), if_pos trivial]) h) (fun k => by
    simp only [laws_eqByteS.l0]
    rw [if_neg (by omega)])

theorem laws_szByteS_ok (l : List Int) (left : Int) (h0 : 0 ≤ left) (h1 : left ≤ 1048576) (hl : l.length ≤ 9223372036854775807) : ∃ r, laws_szByteS.f l left = some r ∧ (0 ≤ r → r ≤ left ∧ l.length ≤ 1048576) := by
  simp only [laws_szByteS.f]
  rw [wrap_id (by omega) (by omega)]
  split
  · exact ⟨_, rfl, fun h => by omega⟩
  · exact ⟨_, rfl, fun h => by omega⟩

theorem laws_szStream_ok (x0 : List Int) (x1 : Bool) (left : Int) (h0 : 0 ≤ left) (h1 : left ≤ 1048576) (hl0 : x0.length ≤ 9223372036854775807) : ∃ r, laws_szStream.f x0 x1 left = some r ∧ (0 ≤ r → r ≤ left ∧ x0.length ≤ 1048576) := by
  simp only [laws_szStream.f]
  obtain ⟨r0, e0, k0⟩ := laws_szByteS_ok x0 left (by omega) (by omega) hl0
  rw [e0]
  simp only [Option.bind_some]
  by_cases c0 : r0 < 0
  · rw [if_pos c0]
    exact ⟨_, rfl, fun h => by omega⟩
  rw [if_neg c0]
  have k0' := k0 (by omega)
  exact ⟨_, rfl, fun h => by omega⟩

theorem laws_toStream_ev (x0 : List Int) (x1 : Bool) (hl0 : x0.length ≤ 1048576) : Ev (fun k => laws_toStream.f k x0 x1) (x0, x1) := by
  simp only [laws_toStream.f]
  refine Ev.bind (laws_toByteS_ev x0 hl0) ?_
  try dsimp only
  exact Ev.now _

theorem laws_eqStream_ev (x0 : List Int) (x1 : Bool) (hl0 : x0.length ≤ 4611686018427387904) : Ev (fun k => laws_eqStream.f k x0 x1 x0 x1) true := by
  cases x1 <;> (
  simp only [laws_eqStream.f]
  repeat (first
    | exact Ev.now _
    | refine Ev.pos trivial ?_
    | refine Ev.pos rfl ?_
    | refine Ev.neg (by decide) ?_
    | (refine Ev.bind (laws_eqByteS_ev x0 hl0) ?_; try dsimp only)))

theorem laws_szAscii_ok (x0 : List Int) (x1 : Bool) (x2 : Int) (x3 : Int) (left : Int) (h0 : 0 ≤ left) (h1 : left ≤ 1048576) (hl0 : x0.length ≤ 9223372036854775807) : ∃ r, laws_szAscii.f x0 x1 x2 x3 left = some r ∧ (0 ≤ r → r ≤ left ∧ x0.length ≤ 1048576) := by
  simp only [laws_szAscii.f]
  obtain ⟨r0, e0, k0⟩ := laws_szByteS_ok x0 left (by omega) (by omega) hl0
  rw [e0]
  simp only [Option.bind_some]
  by_cases c0 : r0 < 0
  · rw [if_pos c0]
    exact ⟨_, rfl, fun h => by omega⟩
  rw [if_neg c0]
  have k0' := k0 (by omega)
  exact ⟨_, rfl, fun h => by omega⟩

theorem laws_toAscii_ev (x0 : List Int) (x1 : Bool) (x2 : Int) (x3 : Int) (hl0 : x0.length ≤ 1048576) : Ev (fun k => laws_toAscii.f k x0 x1 x2 x3) (x0, x1, x2, x3) := by
  simp only [laws_toAscii.f]
  refine Ev.bind (laws_toByteS_ev x0 hl0) ?_
  try dsimp only
  exact Ev.now _

theorem laws_eqAscii_ev (x0 : List Int) (x1 : Bool) (x2 : Int) (x3 : Int) (hl0 : x0.length ≤ 4611686018427387904) : Ev (fun k => laws_eqAscii.f k x0 x1 x2 x3 x0 x1 x2 x3) true := by
  cases x1 <;> (
  simp only [laws_eqAscii.f]
  repeat (first
    | exact Ev.now _
    | refine Ev.pos trivial ?_
    | refine Ev.pos rfl ?_
    | refine Ev.neg (by decide) ?_
    | (refine Ev.bind (laws_eqByteS_ev x0 hl0) ?_; try dsimp only)))

theorem laws_szRtu_ok (x0 : List Int) (x1 : Int) (x2 : Bool) (x3 : Int) (x4 : Int) (left : Int) (h0 : 0 ≤ left) (h1 : left ≤ 1048576) (hl0 : x0.length ≤ 9223372036854775807) : ∃ r, laws_szRtu.f x0 x1 x2 x3 x4 left = some r ∧ (0 ≤ r → r ≤ left ∧ x0.length ≤ 1048576) := by
  simp only [laws_szRtu.f]
  obtain ⟨r0, e0, k0⟩ := laws_szByteS_ok x0 left (by omega) (by omega) hl0
  rw [e0]
  simp only [Option.bind_some]
  by_cases c0 : r0 < 0
  · rw [if_pos c0]
    exact ⟨_, rfl, fun h => by omega⟩
  rw [if_neg c0]
  have k0' := k0 (by omega)
  exact ⟨_, rfl, fun h => by omega⟩

theorem laws_toRtu_ev (x0 : List Int) (x1 : Int) (x2 : Bool) (x3 : Int) (x4 : Int) (hl0 : x0.length ≤ 1048576) : Ev (fun k => laws_toRtu.f k x0 x1 x2 x3 x4) (x0, x1, x2, x3, x4) := by
  simp only [laws_toRtu.f]
  refine Ev.bind (laws_toByteS_ev x0 hl0) ?_
  try dsimp only
  exact Ev.now _

theorem laws_eqRtu_ev (x0 : List Int) (x1 : Int) (x2 : Bool) (x3 : Int) (x4 : Int) (hl0 : x0.length ≤ 4611686018427387904) : Ev (fun k => laws_eqRtu.f k x0 x1 x2 x3 x4 x0 x1 x2 x3 x4) true := by
  cases x2 <;> (
  simp only [laws_eqRtu.f]
  repeat (first
    | exact Ev.now _
    | refine Ev.pos trivial ?_
    | refine Ev.pos rfl ?_
    | refine Ev.neg (by decide) ?_
    | (refine Ev.bind (laws_eqByteS_ev x0 hl0) ?_; try dsimp only)))

theorem laws_szPort_ok (x0 : Int) (x1 : List Int) (x2 : Int) (x3 : Bool) (x4 : Int) (x5 : Int) (x6 : List Int) (x7 : Bool) (x8 : Int) (x9 : Int) (x10 : List Int) (x11 : Bool) (x12 : Int) (left : Int) (h0 : 0 ≤ left) (h1 : left ≤ 1048576) (hl1 : x1.length ≤ 9223372036854775807) (hl6 : x6.length ≤ 9223372036854775807) (hl10 : x10.length ≤ 9223372036854775807) : ∃ r, laws_szPort.f x0 x1 x2 x3 x4 x5 x6 x7 x8 x9 x10 x11 x12 left = some r ∧ (0 ≤ r → r ≤ left ∧ x1.length ≤ 1048576 ∧ x6.length ≤ 1048576 ∧ x10.length ≤ 1048576) := by
  simp only [laws_szPort.f]
  obtain ⟨r0, e0, k0⟩ := laws_szRtu_ok x1 x2 x3 x4 x5 left (by omega) (by omega) hl1
  rw [e0]
  simp only [Option.bind_some]
  by_cases c0 : r0 < 0
  · rw [if_pos c0]
    exact ⟨_, rfl, fun h => by omega⟩
  rw [if_neg c0]
  have k0' := k0 (by omega)
  obtain ⟨r1, e1, k1⟩ := laws_szAscii_ok x6 x7 x8 x9 r0 (by omega) (by omega) hl6
  rw [e1]
  simp only [Option.bind_some]
  by_cases c1 : r1 < 0
  · rw [if_pos c1]
    exact ⟨_, rfl, fun h => by omega⟩
  rw [if_neg c1]
  have k1' := k1 (by omega)
  obtain ⟨r2, e2, k2⟩ := laws_szStream_ok x10 x11 r1 (by omega) (by omega) hl10
  rw [e2]
  simp only [Option.bind_some]
  by_cases c2 : r2 < 0
  · rw [if_pos c2]
    exact ⟨_, rfl, fun h => by omega⟩
  rw [if_neg c2]
  have k2' := k2 (by omega)
  exact ⟨_, rfl, fun h => by omega⟩

theorem laws_toPort_ev (x0 : Int) (x1 : List Int) (x2 : Int) (x3 : Bool) (x4 : Int) (x5 : Int) (x6 : List Int) (x7 : Bool) (x8 : Int) (x9 : Int) (x10 : List Int) (x11 : Bool) (x12 : Int) (hl1 : x1.length ≤ 1048576) (hl6 : x6.length ≤ 1048576) (hl10 : x10.length ≤ 1048576) : Ev (fun k => laws_toPort.f k x0 x1 x2 x3 x4 x5 x6 x7 x8 x9 x10 x11 x12) (x0, x1, x2, x3, x4, x5, x6, x7, x8, x9, x10, x11, x12) := by
  simp only [laws_toPort.f]
  refine Ev.bind (laws_toRtu_ev x1 x2 x3 x4 x5 hl1) ?_
  try dsimp only
  refine Ev.bind (laws_toAscii_ev x6 x7 x8 x9 hl6) ?_
  try dsimp only
  refine Ev.bind (laws_toStream_ev x10 x11 hl10) ?_
  try dsimp only
  exact Ev.now _

theorem laws_eqPort_ev (x0 : Int) (x1 : List Int) (x2 : Int) (x3 : Bool) (x4 : Int) (x5 : Int) (x6 : List Int) (x7 : Bool) (x8 : Int) (x9 : Int) (x10 : List Int) (x11 : Bool) (x12 : Int) (hl1 : x1.length ≤ 4611686018427387904) (hl6 : x6.length ≤ 4611686018427387904) (hl10 : x10.length ≤ 4611686018427387904) : Ev (fun k => laws_eqPort.f k x0 x1 x2 x3 x4 x5 x6 x7 x8 x9 x10 x11 x12 x0 x1 x2 x3 x4 x5 x6 x7 x8 x9 x10 x11 x12) true := by
  (
  simp only [laws_eqPort.f]
  repeat (first
    | exact Ev.now _
    | refine Ev.pos trivial ?_
    | refine Ev.pos rfl ?_
    | refine Ev.neg (by decide) ?_
    | (refine Ev.bind (laws_eqRtu_ev x1 x2 x3 x4 x5 hl1) ?_; try dsimp only)
    | (refine Ev.bind (laws_eqAscii_ev x6 x7 x8 x9 hl6) ?_; try dsimp only)
    | (refine Ev.bind (laws_eqStream_ev x10 x11 hl10) ?_; try dsimp only)))

theorem spec_l1In_eq (a b c : Int) : spec_l1In.f a b c = some (decide (b ≤ a ∧ a ≤ c)) := by
  simp only [spec_l1In.f]
  split
  · congr 1; simp only [decide_eq_decide]; omega
  · congr 1; symm; simp only [decide_eq_false_iff_not]; omega

theorem impl_in_eq (a b c : Int) : impl_in.f a b c = some (decide (b ≤ a ∧ a ≤ c)) := by
  simp only [impl_in.f]
  split
  · congr 1; simp only [decide_eq_decide]; omega
  · congr 1; symm; simp only [decide_eq_false_iff_not]; omega

theorem spec_l1Tick_eq (a : Int) : spec_l1Tick.f a = some (decide (0 ≤ a ∧ a ≤ 4294967295)) := by
  simp only [spec_l1Tick.f, spec_l1In_eq, Option.bind_some]

theorem impl_isTick_eq (a : Int) : impl_isTick.f a = some (decide (0 ≤ a ∧ a ≤ 4294967295)) := by
  simp only [impl_isTick.f, impl_in_eq, Option.bind_some]

theorem StreamOk_same (l : List Int) (b : Bool) : impl_StreamOk.f l b = spec_StreamOk.f l b := by rfl
theorem StreamOk_some (l : List Int) (b : Bool) : ∃ r, spec_StreamOk.f l b = some r := by
  simp only [spec_StreamOk.f]
  repeat' split
  all_goals exact ⟨_, rfl⟩

theorem AsciiOk_same (l : List Int) (b : Bool) (i j : Int) : impl_AsciiOk.f l b i j = spec_AsciiOk.f l b i j := by
  simp only [impl_AsciiOk.f, spec_AsciiOk.f, impl_isTick_eq, impl_in_eq, spec_l1In_eq, spec_l1Tick_eq, Option.bind_some]
  by_cases h1 : (l.length : Int) ≤ 600
  · by_cases h2 : 0 ≤ i ∧ i ≤ 4294967295
    · by_cases h3 : 1 ≤ j ∧ j ≤ 1000
      · simp [h1, h2, h3, show ¬ (600 < l.length) by omega, show ¬ (600 < (l.length : Int)) by omega]
      · simp [h1, h2, h3, show ¬ (600 < l.length) by omega, show ¬ (600 < (l.length : Int)) by omega]
    · by_cases h3 : 1 ≤ j ∧ j ≤ 1000
      · simp [h1, h2, h3, show ¬ (600 < l.length) by omega, show ¬ (600 < (l.length : Int)) by omega]
      · simp [h1, h2, h3, show ¬ (600 < l.length) by omega, show ¬ (600 < (l.length : Int)) by omega]
  · by_cases h3 : 1 ≤ j ∧ j ≤ 1000
    · simp [h1, h3, show 600 < l.length by omega, show 600 < (l.length : Int) by omega]
    · simp [h1, h3, show 600 < l.length by omega, show 600 < (l.length : Int) by omega]
theorem AsciiOk_some (l : List Int) (b : Bool) (i j : Int) : ∃ r, spec_AsciiOk.f l b i j = some r := by
  simp only [spec_AsciiOk.f, spec_l1In_eq, spec_l1Tick_eq, Option.bind_some]
  repeat' split
  all_goals first | exact ⟨_, rfl⟩ | (exfalso; omega)

theorem spec_RtuOk_eq (l : List Int) (a : Int) (b : Bool) (i j : Int) : spec_RtuOk.f l a b i j = some (decide ((1 ≤ i ∧ i ≤ 1000) ∧ (i ≤ j ∧ j ≤ 1000) ∧ l.length ≤ 257 ∧ (0 ≤ a ∧ a ≤ 4294967295) ∧ (b = true → 0 < l.length))) := by
  simp only [spec_RtuOk.f, spec_l1In_eq, spec_l1Tick_eq, Option.bind_some]
  by_cases h1 : 1 ≤ i ∧ i ≤ 1000
  · by_cases h2 : i ≤ j ∧ j ≤ 1000
    · by_cases h3 : (l.length : Int) ≤ 257
      · by_cases h4 : 0 ≤ a ∧ a ≤ 4294967295
        · cases b with
          | true => simp [h1, h2, h3, h4, show l.length ≤ 257 by omega]
          | false => simp [h1, h2, h3, h4, show l.length ≤ 257 by omega]
        · simp [h1, h2, h3, h4]
      · simp [h1, h2, h3, show ¬ l.length ≤ 257 by omega]
    · simp [h1, h2]
  · simp [h1]

theorem impl_RtuOk_eq (l : List Int) (a : Int) (b : Bool) (i j : Int) : impl_RtuOk.f l a b i j = some (decide ((1 ≤ i ∧ i ≤ 1000) ∧ (i ≤ j ∧ j ≤ 1000) ∧ l.length ≤ 257 ∧ (0 ≤ a ∧ a ≤ 4294967295) ∧ (b = true → 0 < l.length))) := by
  simp only [impl_RtuOk.f, impl_in_eq, impl_isTick_eq, Option.bind_some]
  by_cases h3 : (l.length : Int) ≤ 257
  · by_cases h1 : 1 ≤ i ∧ i ≤ 1000
    · by_cases h2 : i ≤ j ∧ j ≤ 1000
      · by_cases h4 : 0 ≤ a ∧ a ≤ 4294967295
        · by_cases h5 : (l.length : Int) > 0
          · simp [h1, h2, h3, h4, show l.length ≤ 257 by omega, show 0 < l.length by omega]
          · cases b with
            | true => simp [h5, show ¬ 0 < l.length by omega]
            | false => simp [h1, h2, h3, h4, h5, show l.length ≤ 257 by omega, show ¬ 0 < l.length by omega]
        · cases b <;> simp [h1, h2, h3, h4]
      · cases b <;> simp [h1, h2, h3]
    · cases b <;> simp [h1, h3]
  · simp [h3, show ¬ l.length ≤ 257 by omega]

theorem noRtu_same (l : List Int) (a : Int) (b : Bool) (i j : Int) : impl_noRtu.f l a b i j = spec_l9NoRtu.f l a b i j := by rfl
theorem noRtu_some (l : List Int) (a : Int) (b : Bool) (i j : Int) : ∃ r, spec_l9NoRtu.f l a b i j = some r := by
  simp only [spec_l9NoRtu.f]
  repeat' split
  all_goals exact ⟨_, rfl⟩

theorem noAscii_same (l : List Int) (b : Bool) (i j : Int) : impl_noAscii.f l b i j = spec_l9NoAscii.f l b i j := by rfl
theorem noAscii_some (l : List Int) (b : Bool) (i j : Int) : ∃ r, spec_l9NoAscii.f l b i j = some r := by
  simp only [spec_l9NoAscii.f]
  repeat' split
  all_goals exact ⟨_, rfl⟩

theorem noStream_same (l : List Int) (b : Bool) : impl_noStream.f l b = spec_l9NoStream.f l b := by rfl
theorem noStream_some (l : List Int) (b : Bool) : ∃ r, spec_l9NoStream.f l b = some r := by
  simp only [spec_l9NoStream.f]
  repeat' split
  all_goals exact ⟨_, rfl⟩

theorem PortOk_same (x0 : Int) (x1 : List Int) (x2 : Int) (x3 : Bool) (x4 x5 : Int) (x6 : List Int) (x7 : Bool) (x8 x9 : Int) (x10 : List Int) (x11 : Bool) (x12 : Int) : impl_PortOk.f x0 x1 x2 x3 x4 x5 x6 x7 x8 x9 x10 x11 x12 = spec_PortOk.f x0 x1 x2 x3 x4 x5 x6 x7 x8 x9 x10 x11 x12 := by
  simp only [impl_PortOk.f, spec_PortOk.f, impl_in_eq, spec_l1In_eq, impl_RtuOk_eq, spec_RtuOk_eq, noRtu_same, noAscii_same, noStream_same, AsciiOk_same, StreamOk_same]
theorem PortOk_some (x0 : Int) (x1 : List Int) (x2 : Int) (x3 : Bool) (x4 x5 : Int) (x6 : List Int) (x7 : Bool) (x8 x9 : Int) (x10 : List Int) (x11 : Bool) (x12 : Int) : ∃ r, spec_PortOk.f x0 x1 x2 x3 x4 x5 x6 x7 x8 x9 x10 x11 x12 = some r := by
  simp only [spec_PortOk.f, spec_l1In_eq, spec_RtuOk_eq]
  obtain ⟨q1, e1⟩ := noRtu_some x1 x2 x3 x4 x5
  obtain ⟨q2, e2⟩ := noAscii_some x6 x7 x8 x9
  obtain ⟨q3, e3⟩ := noStream_some x10 x11
  obtain ⟨q4, e4⟩ := AsciiOk_some x6 x7 x8 x9
  obtain ⟨q5, e5⟩ := StreamOk_some x10 x11
  rw [e1, e2, e3, e4, e5]
  simp only [Option.bind_some]
  repeat' split
  all_goals exact ⟨_, rfl⟩

theorem FnExactPortOk : laws_FnExactPortOk.Pure := by
  intro x0 x1 x2 x3 x4 x5 x6 x7 x8 x9 x10 x11 x12 w0 w1 w2 w4 w5 w6 w8 w9 w10 w12
  refine Ev.rounds (g := fun k => laws_FnExactPortOk.f k x0 x1 x2 x3 x4 x5 x6 x7 x8 x9 x10 x11 x12) ?_
  simp only [laws_FnExactPortOk.f]
  obtain ⟨r, er, hr⟩ := laws_szPort_ok x0 x1 x2 x3 x4 x5 x6 x7 x8 x9 x10 x11 x12 1048576 (by omega) (by omega) w1.1 w6.1 w10.1
  refine Ev.then er ?_
  refine Ev.ite (fun _ => Ev.now _) (fun hn => ?_)
  have hr' := hr (by omega)
  obtain ⟨q, eq⟩ := PortOk_some x0 x1 x2 x3 x4 x5 x6 x7 x8 x9 x10 x11 x12
  have eq2 : impl_PortOk.f x0 x1 x2 x3 x4 x5 x6 x7 x8 x9 x10 x11 x12 = some q := (PortOk_same x0 x1 x2 x3 x4 x5 x6 x7 x8 x9 x10 x11 x12).trans eq
  refine Ev.bind (laws_toPort_ev x0 x1 x2 x3 x4 x5 x6 x7 x8 x9 x10 x11 x12 (by omega) (by omega) (by omega)) ?_
  try dsimp only
  refine Ev.then eq ?_
  refine Ev.bind (laws_toPort_ev x0 x1 x2 x3 x4 x5 x6 x7 x8 x9 x10 x11 x12 (by omega) (by omega) (by omega)) ?_
  try dsimp only
  refine Ev.then eq2 ?_
  cases q <;> (
  repeat (first
    | exact Ev.now _
    | refine Ev.pos rfl ?_
    | refine Ev.neg (by decide) ?_
    | (refine Ev.bind (laws_toPort_ev x0 x1 x2 x3 x4 x5 x6 x7 x8 x9 x10 x11 x12 (by omega) (by omega) (by omega)) ?_; try dsimp only)
    | (refine Ev.bind (laws_eqPort_ev x0 x1 x2 x3 x4 x5 x6 x7 x8 x9 x10 x11 x12 (by omega) (by omega) (by omega)) ?_; try dsimp only)))

end Go.Proofs.Ytgbpcljilceicaa.Pure
