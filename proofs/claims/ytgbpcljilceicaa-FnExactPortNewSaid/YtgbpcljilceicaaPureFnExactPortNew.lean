/- The pure statement of the law FnExactPortNew: with rounds enough it tells true of every argument that can be read. Its parts: what the printed functions tell. -/
import Derived.Test.YtgbpcljilceicaaPFnExactPortNewx
import Derived.Test.YtgbpcljilceicaaWPure
set_option linter.unusedVariables false
set_option linter.unusedSimpArgs false
namespace Go.Proofs.Ytgbpcljilceicaa.Pure
open Go.RowKit Go.Proofs.Ytgbpcljilceicaa.PFnExactPortNew Go.Proofs.YtgbpcljilceicaaW.PrintWords Go.Proofs.YtgbpcljilceicaaW.PrintLast Go.Proofs.YtgbpcljilceicaaW.Pure

theorem laws_eqByteS_ev (l : List Int) (hl : l.length ≤ 4611686018427387904) : Ev (fun k => laws_eqByteS.f k l l) true := by
  simp only [laws_eqByteS.f]
  refine Ev.pos (by first | trivial | rfl) ?_
  exact same_ev (fun k i => laws_eqByteS.l0 k l l i) l hl (fun i hi h => Ev.step (fun k => by
    simp only [laws_eqByteS.l0]
    rw [if_pos (by omega), if_pos (by omega), if_pos (by omega), if_pos trivial]) h) (fun k => by
    simp only [laws_eqByteS.l0]
    rw [if_neg (by omega)])

def eByte (k : Int) : Int := k % 256
theorem laws_markByteS_ev (l : List Int) (m : Int) (h0 : 0 ≤ m) (hl : m + l.length ≤ 4611686018427387904) : Ev (fun k => laws_markByteS.f k l m) (m + l.length, marks eByte l.length m) := by
  simp only [laws_markByteS.f]
  exact mark_ev laws_markByteS.l0 eByte (fun k x m i hi => by
    simp only [laws_markByteS.l0]
    rw [if_pos (by omega), if_pos (by omega), Int.toNat_natCast]
    rfl) (fun k x m => by
    simp only [laws_markByteS.l0]
    rw [if_neg (by omega)]) l m h0 hl

theorem laws_heldByteS_ev (n : Nat) (m : Int) (h0 : 0 ≤ m) (hl : m + n ≤ 4611686018427387904) : Ev (fun k => laws_heldByteS.f k (marks eByte n m) m) (m + n) := by
  simp only [laws_heldByteS.f]
  exact held_ev laws_heldByteS.l0 eByte (fun k x m i hi h => by
    simp only [laws_heldByteS.l0]
    rw [if_pos (by omega), if_pos (by omega), if_pos (by rw [rd_nat x i hi, h]; rfl)]) (fun k x m => by
    simp only [laws_heldByteS.l0]
    rw [if_neg (by omega)]) n m h0 hl

theorem laws_eqStream_ev (x0 : List Int) (x1 : Bool) (hl0 : x0.length ≤ 4611686018427387904) : Ev (fun k => laws_eqStream.f k x0 x1 x0 x1) true := by
  cases x1 <;> (
  simp only [laws_eqStream.f]
  repeat (first
    | exact Ev.now _
    | refine Ev.pos trivial ?_
    | refine Ev.pos rfl ?_
    | refine Ev.neg (by decide) ?_
    | (refine Ev.bind (laws_eqByteS_ev x0 hl0) ?_; try dsimp only)))

theorem laws_markStream_ev (x0 : List Int) (x1 : Bool) (m : Int) (h0 : 0 ≤ m) (hl : m + x0.length ≤ 4611686018427387904) : Ev (fun k => laws_markStream.f k x0 x1 m) ((m + x0.length), marks eByte x0.length m) := by
  simp only [laws_markStream.f]
  refine Ev.bind (laws_markByteS_ev x0 m (by omega) (by omega)) ?_
  try dsimp only
  exact Ev.now _

theorem laws_heldStream_ev (n0 : Nat) (x1 : Bool) (m : Int) (h0 : 0 ≤ m) (hl : m + n0 ≤ 4611686018427387904) : Ev (fun k => laws_heldStream.f k (marks eByte n0 m) x1 m) (m + (n0 : Int)) := by
  simp only [laws_heldStream.f]
  refine Ev.bind (laws_heldByteS_ev n0 m (by omega) (by omega)) ?_
  refine Ev.neg (by omega) ?_
  exact Ev.now _

theorem laws_eqAscii_ev (x0 : List Int) (x1 : Bool) (x2 : Int) (x3 : Int) (hl0 : x0.length ≤ 4611686018427387904) : Ev (fun k => laws_eqAscii.f k x0 x1 x2 x3 x0 x1 x2 x3) true := by
  cases x1 <;> (
  simp only [laws_eqAscii.f]
  repeat (first
    | exact Ev.now _
    | refine Ev.pos trivial ?_
    | refine Ev.pos rfl ?_
    | refine Ev.neg (by decide) ?_
    | (refine Ev.bind (laws_eqByteS_ev x0 hl0) ?_; try dsimp only)))

theorem laws_markAscii_ev (x0 : List Int) (x1 : Bool) (x2 : Int) (x3 : Int) (m : Int) (h0 : 0 ≤ m) (hl : m + x0.length ≤ 4611686018427387904) : Ev (fun k => laws_markAscii.f k x0 x1 x2 x3 m) ((m + x0.length), marks eByte x0.length m) := by
  simp only [laws_markAscii.f]
  refine Ev.bind (laws_markByteS_ev x0 m (by omega) (by omega)) ?_
  try dsimp only
  exact Ev.now _

theorem laws_heldAscii_ev (n0 : Nat) (x1 : Bool) (x2 : Int) (x3 : Int) (m : Int) (h0 : 0 ≤ m) (hl : m + n0 ≤ 4611686018427387904) : Ev (fun k => laws_heldAscii.f k (marks eByte n0 m) x1 x2 x3 m) (m + (n0 : Int)) := by
  simp only [laws_heldAscii.f]
  refine Ev.bind (laws_heldByteS_ev n0 m (by omega) (by omega)) ?_
  refine Ev.neg (by omega) ?_
  exact Ev.now _

theorem laws_eqRtu_ev (x0 : List Int) (x1 : Int) (x2 : Bool) (x3 : Int) (x4 : Int) (hl0 : x0.length ≤ 4611686018427387904) : Ev (fun k => laws_eqRtu.f k x0 x1 x2 x3 x4 x0 x1 x2 x3 x4) true := by
  cases x2 <;> (
  simp only [laws_eqRtu.f]
  repeat (first
    | exact Ev.now _
    | refine Ev.pos trivial ?_
    | refine Ev.pos rfl ?_
    | refine Ev.neg (by decide) ?_
    | (refine Ev.bind (laws_eqByteS_ev x0 hl0) ?_; try dsimp only)))

theorem laws_markRtu_ev (x0 : List Int) (x1 : Int) (x2 : Bool) (x3 : Int) (x4 : Int) (m : Int) (h0 : 0 ≤ m) (hl : m + x0.length ≤ 4611686018427387904) : Ev (fun k => laws_markRtu.f k x0 x1 x2 x3 x4 m) ((m + x0.length), marks eByte x0.length m) := by
  simp only [laws_markRtu.f]
  refine Ev.bind (laws_markByteS_ev x0 m (by omega) (by omega)) ?_
  try dsimp only
  exact Ev.now _

theorem laws_heldRtu_ev (n0 : Nat) (x1 : Int) (x2 : Bool) (x3 : Int) (x4 : Int) (m : Int) (h0 : 0 ≤ m) (hl : m + n0 ≤ 4611686018427387904) : Ev (fun k => laws_heldRtu.f k (marks eByte n0 m) x1 x2 x3 x4 m) (m + (n0 : Int)) := by
  simp only [laws_heldRtu.f]
  refine Ev.bind (laws_heldByteS_ev n0 m (by omega) (by omega)) ?_
  refine Ev.neg (by omega) ?_
  exact Ev.now _

theorem laws_eqPort_ev (x0 : Int) (x1 : List Int) (x2 : Int) (x3 : Bool) (x4 : Int) (x5 : Int) (x6 : List Int) (x7 : Bool) (x8 : Int) (x9 : Int) (x10 : List Int) (x11 : Bool) (x12 : Int) (hl1 : x1.length ≤ 4611686018427387904) (hl6 : x6.length ≤ 4611686018427387904) (hl10 : x10.length ≤ 4611686018427387904) : Ev (fun k => laws_eqPort.f k x0 x1 x2 x3 x4 x5 x6 x7 x8 x9 x10 x11 x12 x0 x1 x2 x3 x4 x5 x6 x7 x8 x9 x10 x11 x12) true := by
  (
  simp only [laws_eqPort.f]
  repeat (first
    | exact Ev.now _
    | refine Ev.pos trivial ?_
    | refine Ev.pos rfl ?_
    | refine Ev.neg (by decide) ?_
    | (refine Ev.bind (laws_eqRtu_ev x1 x2 x3 x4 x5 hl1) ?_; try dsimp only)
    | (refine Ev.bind (laws_eqAscii_ev x6 x7 x8 x9 hl6) ?_; try dsimp only)
    | (refine Ev.bind (laws_eqStream_ev x10 x11 hl10) ?_; try dsimp only)))

theorem laws_markPort_ev (x0 : Int) (x1 : List Int) (x2 : Int) (x3 : Bool) (x4 : Int) (x5 : Int) (x6 : List Int) (x7 : Bool) (x8 : Int) (x9 : Int) (x10 : List Int) (x11 : Bool) (x12 : Int) (m : Int) (h0 : 0 ≤ m) (hl : m + x1.length + x6.length + x10.length ≤ 4611686018427387904) : Ev (fun k => laws_markPort.f k x0 x1 x2 x3 x4 x5 x6 x7 x8 x9 x10 x11 x12 m) ((((m + x1.length) + x6.length) + x10.length), marks eByte x1.length m, marks eByte x6.length (m + x1.length), marks eByte x10.length ((m + x1.length) + x6.length)) := by
  simp only [laws_markPort.f]
  refine Ev.bind (laws_markRtu_ev x1 x2 x3 x4 x5 m (by omega) (by omega)) ?_
  try dsimp only
  refine Ev.bind (laws_markAscii_ev x6 x7 x8 x9 (m + x1.length) (by omega) (by omega)) ?_
  try dsimp only
  refine Ev.bind (laws_markStream_ev x10 x11 ((m + x1.length) + x6.length) (by omega) (by omega)) ?_
  try dsimp only
  exact Ev.now _

theorem laws_heldPort_ev (x0 : Int) (n1 : Nat) (x2 : Int) (x3 : Bool) (x4 : Int) (x5 : Int) (n6 : Nat) (x7 : Bool) (x8 : Int) (x9 : Int) (n10 : Nat) (x11 : Bool) (x12 : Int) (m : Int) (h0 : 0 ≤ m) (hl : m + n1 + n6 + n10 ≤ 4611686018427387904) : Ev (fun k => laws_heldPort.f k x0 (marks eByte n1 m) x2 x3 x4 x5 (marks eByte n6 (m + (n1 : Int))) x7 x8 x9 (marks eByte n10 ((m + (n1 : Int)) + (n6 : Int))) x11 x12 m) (((m + (n1 : Int)) + (n6 : Int)) + (n10 : Int)) := by
  simp only [laws_heldPort.f]
  refine Ev.bind (laws_heldRtu_ev n1 x2 x3 x4 x5 m (by omega) (by omega)) ?_
  refine Ev.neg (by omega) ?_
  refine Ev.bind (laws_heldAscii_ev n6 x7 x8 x9 (m + (n1 : Int)) (by omega) (by omega)) ?_
  refine Ev.neg (by omega) ?_
  refine Ev.bind (laws_heldStream_ev n10 x11 ((m + (n1 : Int)) + (n6 : Int)) (by omega) (by omega)) ?_
  refine Ev.neg (by omega) ?_
  exact Ev.now _

theorem spec_l1In_eq (a b c : Int) : spec_l1In.f a b c = some (decide (b ≤ a ∧ a ≤ c)) := by
  simp only [spec_l1In.f]
  split
  · congr 1; simp only [decide_eq_decide]; omega
  · congr 1; symm; simp only [decide_eq_false_iff_not]; omega

theorem impl_in_eq (a b c : Int) : impl_in.f a b c = some (decide (b ≤ a ∧ a ≤ c)) := by
  simp only [impl_in.f]
  split
  · congr 1; simp only [decide_eq_decide]; omega
  · congr 1; symm; simp only [decide_eq_false_iff_not]; omega

theorem impl_isTick_eq (a : Int) : impl_isTick.f a = some (decide (0 ≤ a ∧ a ≤ 4294967295)) := by
  simp only [impl_isTick.f, impl_in_eq, Option.bind_some]

def asciiNewN (a : Int) : List Int × Bool × Int × Int := if 1 ≤ a ∧ a ≤ 1000 then ([], false, 0, a) else ([], false, 0, 0)
theorem spec_AsciiNew_eq (a : Int) : spec_AsciiNew.f a = some (asciiNewN a) := by
  simp only [spec_AsciiNew.f, spec_l1In_eq, Option.bind_some, asciiNewN]
  split <;> split <;> simp_all
theorem impl_AsciiNew_eq (a : Int) : impl_AsciiNew.f a = some (asciiNewN a) := by
  have h : impl_AsciiOk.f [] false 0 a = some (decide (1 ≤ a ∧ a ≤ 1000)) := by
    simp only [impl_AsciiOk.f, impl_isTick_eq, impl_in_eq, Option.bind_some]
    by_cases h : 1 ≤ a ∧ a ≤ 1000
    · simp [h]
    · simp [h]
  simp only [impl_AsciiNew.f, h, Option.bind_some, asciiNewN]
  split <;> split <;> simp_all

theorem impl_RtuOk_eq (l : List Int) (a : Int) (b : Bool) (i j : Int) : impl_RtuOk.f l a b i j = some (decide ((1 ≤ i ∧ i ≤ 1000) ∧ (i ≤ j ∧ j ≤ 1000) ∧ l.length ≤ 257 ∧ (0 ≤ a ∧ a ≤ 4294967295) ∧ (b = true → 0 < l.length))) := by
  simp only [impl_RtuOk.f, impl_in_eq, impl_isTick_eq, Option.bind_some]
  by_cases h3 : (l.length : Int) ≤ 257
  · by_cases h1 : 1 ≤ i ∧ i ≤ 1000
    · by_cases h2 : i ≤ j ∧ j ≤ 1000
      · by_cases h4 : 0 ≤ a ∧ a ≤ 4294967295
        · by_cases h5 : (l.length : Int) > 0
          · simp [h1, h2, h3, h4, show l.length ≤ 257 by omega, show 0 < l.length by omega]
          · cases b with
            | true => simp [h5, show ¬ 0 < l.length by omega]
            | false => simp [h1, h2, h3, h4, h5, show l.length ≤ 257 by omega, show ¬ 0 < l.length by omega]
        · cases b <;> simp [h1, h2, h3, h4]
      · cases b <;> simp [h1, h2, h3]
    · cases b <;> simp [h1, h3]
  · simp [h3, show ¬ l.length ≤ 257 by omega]

def portNewN (k a : Int) : Int × List Int × Int × Bool × Int × Int × List Int × Bool × Int × Int × List Int × Bool × Int :=
  if k = 1 ∧ 2 ≤ a ∧ a ≤ 1000 then (1, [], 0, false, 2, a, [], false, 0, 0, [], false, 0) else
  if k = 2 ∧ 1 ≤ a ∧ a ≤ 1000 then (2, [], 0, false, 0, 0, [], false, 0, a, [], false, 0) else
  if k = 3 then (3, [], 0, false, 0, 0, [], false, 0, 0, [], false, 0) else (0, [], 0, false, 0, 0, [], false, 0, 0, [], false, 0)
theorem spec_PortNew_j1 (k a : Int) (b : Bool) (hb : b = decide (k = 2 ∧ 1 ≤ a ∧ a ≤ 1000)) (h1 : ¬ (k = 1 ∧ 2 ≤ a ∧ a ≤ 1000)) : Ev (fun n => spec_PortNew.j1 n k a b) (portNewN k a) := by
  refine Ev.step (fun _ => rfl) ?_
  simp only [spec_PortNew.j1]
  cases b with
  | true =>
    have h := of_decide_eq_true hb.symm
    refine Ev.pos rfl ?_
    simp only [spec_AsciiNew.f, spec_l1In_eq]
    refine Ev.then (a := ([], false, 0, a)) (by simp [h]) (Ev.eq (Ev.now _) ?_)
    unfold portNewN
    rw [if_neg h1, if_pos h]
    simp [h.1]
  | false =>
    have h := of_decide_eq_false hb.symm
    refine Ev.neg (by decide) (Ev.ite (fun h3 => Ev.eq (Ev.now _) ?_) (fun h3 => Ev.eq (Ev.now _) ?_))
    · unfold portNewN
      rw [if_neg h1, if_neg h, if_pos h3, h3]
    · unfold portNewN
      rw [if_neg h1, if_neg h, if_neg h3]
theorem spec_PortNew_j0 (k a : Int) (b : Bool) (hb : b = decide (k = 1 ∧ 2 ≤ a ∧ a ≤ 1000)) : Ev (fun n => spec_PortNew.j0 n k a b) (portNewN k a) := by
  refine Ev.step (fun _ => rfl) ?_
  simp only [spec_PortNew.j0]
  cases b with
  | true =>
    have h := of_decide_eq_true hb.symm
    refine Ev.pos rfl ?_
    simp only [spec_RtuNew.f, spec_l1In_eq]
    refine Ev.then (a := ([], 0, false, 2, a)) (by simp [h]) (Ev.eq (Ev.now _) ?_)
    unfold portNewN
    rw [if_pos h]
    simp [h.1]
  | false =>
    have h := of_decide_eq_false hb.symm
    refine Ev.neg (by decide) (Ev.ite (fun h2 => ?_) (fun h2 => ?_))
    · simp only [spec_l1In_eq]
      refine Ev.then rfl (spec_PortNew_j1 k a _ ?_ h)
      simp [h2]
    · exact spec_PortNew_j1 k a _ (by simp [h2]) h
theorem spec_PortNew_ev (k a : Int) : Ev (fun n => spec_PortNew.f n k a) (portNewN k a) := by
  simp only [spec_PortNew.f]
  refine Ev.ite (fun h => ?_) (fun h => ?_)
  · simp only [spec_l1In_eq]
    exact Ev.then rfl (spec_PortNew_j0 k a _ (by simp [h]))
  · exact spec_PortNew_j0 k a _ (by simp [h])

theorem impl_PortNew_eq (k a : Int) : impl_PortNew.f k a = some (portNewN k a) := by
  unfold portNewN
  simp only [impl_PortNew.f, impl_RtuNew.f, impl_AsciiNew.f, impl_PortOk.f, impl_RtuOk_eq, impl_noRtu.f, impl_noAscii.f, impl_noStream.f, impl_AsciiOk.f, impl_StreamOk.f, impl_in_eq, impl_isTick_eq]
  by_cases h1 : k = 1
  · by_cases h : 2 ≤ a ∧ a ≤ 1000
    · simp [h1, h]
    · simp [h1, h]
  · by_cases h2 : k = 2
    · by_cases h : 1 ≤ a ∧ a ≤ 1000
      · simp [h1, h2, h]
      · simp [h1, h2, h]
    · by_cases h3 : k = 3
      · simp [h1, h2, h3]
      · simp [h1, h2, h3]

theorem portNewN_rows (k a : Int) : (portNewN k a).2.1 = [] ∧ (portNewN k a).2.2.2.2.2.2.1 = [] ∧ (portNewN k a).2.2.2.2.2.2.2.2.2.2.1 = [] := by
  unfold portNewN
  repeat' split
  all_goals exact ⟨rfl, rfl, rfl⟩
theorem FnExactPortNew : laws_FnExactPortNew.Pure := by
  intro k a _ _
  refine Ev.rounds (g := fun n => laws_FnExactPortNew.f n k a) ?_
  simp only [laws_FnExactPortNew.f]
  have hl := portNewN_rows k a
  have hs := spec_PortNew_ev k a
  have hi := impl_PortNew_eq k a
  generalize portNewN k a = r at hl hs hi
  obtain ⟨r0, r1, r2, r3, r4, r5, r6, r7, r8, r9, r10, r11, r12⟩ := r
  obtain ⟨h1, h2, h3⟩ := hl
  dsimp only at h1 h2 h3
  subst h1 h2 h3
  repeat (first
    | exact Ev.now _
    | (refine Ev.bind hs ?_; try dsimp only)
    | (refine Ev.then hi ?_; try dsimp only)
    | (refine Ev.bind (laws_eqPort_ev _ _ _ _ _ _ _ _ _ _ _ _ _ (by simp) (by simp) (by simp)) ?_; try dsimp only)
    | (refine Ev.bind (laws_markPort_ev _ _ _ _ _ _ _ _ _ _ _ _ _ _ (by omega) (by simp)) ?_; try dsimp only)
    | (refine Ev.bind (laws_heldPort_ev _ _ _ _ _ _ _ _ _ _ _ _ _ _ (by omega) (by simp)) ?_; try dsimp only)
    | refine Ev.pos trivial ?_
    | refine Ev.pos rfl ?_
    | refine Ev.neg (by simp) ?_)

end Go.Proofs.Ytgbpcljilceicaa.Pure
