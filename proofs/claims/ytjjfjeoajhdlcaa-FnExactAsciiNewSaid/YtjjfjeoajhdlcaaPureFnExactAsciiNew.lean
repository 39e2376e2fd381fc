/- The pure statement of the law FnExactAsciiNew: with rounds enough it tells true of every argument that can be read. Its parts: what the printed functions tell. -/
import Derived.Test.YtjjfjeoajhdlcaaPFnExactAsciiNewx
import Derived.Test.YtjjfjeoajhdlcaaWPure
set_option linter.unusedVariables false
set_option linter.unusedSimpArgs false
namespace Go.Proofs.Ytjjfjeoajhdlcaa.Pure
open Go.RowKit Go.Proofs.Ytjjfjeoajhdlcaa.PFnExactAsciiNew Go.Proofs.YtjjfjeoajhdlcaaW.PrintWords Go.Proofs.YtjjfjeoajhdlcaaW.PrintLast Go.Proofs.YtjjfjeoajhdlcaaW.Pure

theorem laws_eqByteS_ev (l : List Int) (hl : l.length ≤ 4611686018427387904) : Ev (fun k => laws_eqByteS.f k l l) true := by
  simp only [laws_eqByteS.f]
  refine Ev.pos (by first | trivial | rfl) ?_
  exact same_ev (fun k i => laws_eqByteS.l0 k l l i) l hl (fun i hi h => Ev.step (fun k => by
    simp only [laws_eqByteS.l0]
    rw [if_pos (by omega), if_pos (by omega), if_pos (by omega), if_pos trivial]) h) (fun k => by
    simp only [laws_eqByteS.l0]
    rw [if_neg (by omega)])

def eByte (k : Int) : Int := k % 256
theorem laws_markByteS_ev (l : List Int) (m : Int) (h0 : 0 ≤ m) (hl : m + l.length ≤ 4611686018427387904) : Ev (fun k => laws_markByteS.f k l m) (m + l.length, marks eByte l.length m) := by
  simp only [laws_markByteS.f]
  exact mark_ev laws_markByteS.l0 eByte (fun k x m i hi => by
    simp only [laws_markByteS.l0]
    rw [if_pos (by omega), if_pos (by omega), Int.toNat_natCast]
    rfl) (fun k x m => by
    simp only [laws_markByteS.l0]
    rw [if_neg (by omega)]) l m h0 hl

theorem laws_heldByteS_ev (n : Nat) (m : Int) (h0 : 0 ≤ m) (hl : m + n ≤ 4611686018427387904) : Ev (fun k => laws_heldByteS.f k (marks eByte n m) m) (m + n) := by
  simp only [laws_heldByteS.f]
  exact held_ev laws_heldByteS.l0 eByte (fun k x m i hi h => by
    simp only [laws_heldByteS.l0]
    rw [if_pos (by omega), if_pos (by omega), if_pos (by rw [rd_nat x i hi, h]; rfl)]) (fun k x m => by
    simp only [laws_heldByteS.l0]
    rw [if_neg (by omega)]) n m h0 hl

theorem laws_eqAscii_ev (x0 : List Int) (x1 : Bool) (x2 : Int) (x3 : Int) (hl0 : x0.length ≤ 4611686018427387904) : Ev (fun k => laws_eqAscii.f k x0 x1 x2 x3 x0 x1 x2 x3) true := by
  cases x1 <;> (
  simp only [laws_eqAscii.f]
  repeat (first
    | exact Ev.now _
    | refine Ev.pos trivial ?_
    | refine Ev.pos rfl ?_
    | refine Ev.neg (by decide) ?_
    | (refine Ev.bind (laws_eqByteS_ev x0 hl0) ?_; try dsimp only)))

theorem laws_markAscii_ev (x0 : List Int) (x1 : Bool) (x2 : Int) (x3 : Int) (m : Int) (h0 : 0 ≤ m) (hl : m + x0.length ≤ 4611686018427387904) : Ev (fun k => laws_markAscii.f k x0 x1 x2 x3 m) ((m + x0.length), marks eByte x0.length m) := by
  simp only [laws_markAscii.f]
  refine Ev.bind (laws_markByteS_ev x0 m (by omega) (by omega)) ?_
  try dsimp only
  exact Ev.now _

theorem laws_heldAscii_ev (n0 : Nat) (x1 : Bool) (x2 : Int) (x3 : Int) (m : Int) (h0 : 0 ≤ m) (hl : m + n0 ≤ 4611686018427387904) : Ev (fun k => laws_heldAscii.f k (marks eByte n0 m) x1 x2 x3 m) (m + (n0 : Int)) := by
  simp only [laws_heldAscii.f]
  refine Ev.bind (laws_heldByteS_ev n0 m (by omega) (by omega)) ?_
  refine Ev.neg (by omega) ?_
  exact Ev.now _

theorem spec_l1In_eq (a b c : Int) : spec_l1In.f a b c = some (decide (b ≤ a ∧ a ≤ c)) := by
  simp only [spec_l1In.f]
  split
  · congr 1; simp only [decide_eq_decide]; omega
  · congr 1; symm; simp only [decide_eq_false_iff_not]; omega

theorem impl_in_eq (a b c : Int) : impl_in.f a b c = some (decide (b ≤ a ∧ a ≤ c)) := by
  simp only [impl_in.f]
  split
  · congr 1; simp only [decide_eq_decide]; omega
  · congr 1; symm; simp only [decide_eq_false_iff_not]; omega

theorem impl_isTick_eq (a : Int) : impl_isTick.f a = some (decide (0 ≤ a ∧ a ≤ 4294967295)) := by
  simp only [impl_isTick.f, impl_in_eq, Option.bind_some]

def asciiNewN (a : Int) : List Int × Bool × Int × Int := if 1 ≤ a ∧ a ≤ 1000 then ([], false, 0, a) else ([], false, 0, 0)
theorem spec_AsciiNew_eq (a : Int) : spec_AsciiNew.f a = some (asciiNewN a) := by
  simp only [spec_AsciiNew.f, spec_l1In_eq, Option.bind_some, asciiNewN]
  split <;> split <;> simp_all
theorem impl_AsciiNew_eq (a : Int) : impl_AsciiNew.f a = some (asciiNewN a) := by
  have h : impl_AsciiOk.f [] false 0 a = some (decide (1 ≤ a ∧ a ≤ 1000)) := by
    simp only [impl_AsciiOk.f, impl_isTick_eq, impl_in_eq, Option.bind_some]
    by_cases h : 1 ≤ a ∧ a ≤ 1000
    · simp [h]
    · simp [h]
  simp only [impl_AsciiNew.f, h, Option.bind_some, asciiNewN]
  split <;> split <;> simp_all

theorem FnExactAsciiNew : laws_FnExactAsciiNew.Pure := by
  intro a _
  refine Ev.rounds (g := fun k => laws_FnExactAsciiNew.f k a) ?_
  simp only [laws_FnExactAsciiNew.f]
  have hl : (asciiNewN a).1 = [] := by unfold asciiNewN; split <;> rfl
  have hs := spec_AsciiNew_eq a
  have hi := impl_AsciiNew_eq a
  generalize asciiNewN a = r at hl hs hi
  obtain ⟨r1, r2, r3, r4⟩ := r
  obtain rfl : r1 = [] := hl
  repeat (first
    | exact Ev.now _
    | (refine Ev.then hs ?_; try dsimp only)
    | (refine Ev.then hi ?_; try dsimp only)
    | (refine Ev.bind (laws_eqAscii_ev _ _ _ _ (by simp)) ?_; try dsimp only)
    | (refine Ev.bind (laws_markAscii_ev _ _ _ _ _ (by omega) (by simp)) ?_; try dsimp only)
    | (refine Ev.bind (laws_heldAscii_ev _ _ _ _ _ (by omega) (by simp)) ?_; try dsimp only)
    | refine Ev.pos trivial ?_
    | refine Ev.pos rfl ?_
    | refine Ev.neg (by simp) ?_)

end Go.Proofs.Ytjjfjeoajhdlcaa.Pure
