/- Answers: what 'ok' means, and what suits a question, in both packages. -/
import Derived.Test.YtdgmaaiijkoedaaXDraw
namespace Go.Proofs.Ytdgmaaiijkoedaa
open Go Go.Vi
set_option linter.unusedVariables false
set_option linter.unusedSimpArgs false
set_option maxRecDepth 100000
def shapeR (k : Int) : Rng × Rng × Int × Bool :=
  if k = 1 ∨ k = 2 then ((0, 0), (1, 2000), 0, false) else
  if k = 3 ∨ k = 4 ∨ k = 23 then ((1, 125), (0, 0), 0, false) else
  if k = 5 then ((0, 0), (1, 1), 0, true) else
  if k = 6 then ((1, 1), (0, 0), 0, true) else
  if k = 15 then ((0, 0), (0, 0), 1968, true) else
  if k = 16 then ((0, 0), (0, 0), 123, true) else ((2, 2), (0, 0), 0, true)
def bitsSuit (n : Int) (l : List Bool) : Bool := decide ((l.length : Int) = Int.tdiv (n + 7) 8 * 8) && (l.drop n.toNat).all (fun b => !b)
theorem req_facts (x : XReq) (h : specReq x = true) : ((x.Kind = 1 ∨ x.Kind = 2) → 1 ≤ x.N ∧ x.N ≤ 2000) ∧ (x.Kind = 5 → x.Words = [] ∧ x.Bits.length = 1) ∧ ((x.Kind = 6 ∨ x.Kind = 22) → x.Bits = []) ∧ (x.Kind = 15 → x.Words = [] ∧ x.Bits.length ≤ 1968) ∧ (x.Kind = 16 → x.Bits = [] ∧ x.Words.length ≤ 123) := by
  unfold specReq at h
  split at h
  · cases h
  simp only [← List.length_eq_zero_iff]
  refine ⟨fun k => ?_, fun k => ?_, fun k => ?_, fun k => ?_, fun k => ?_⟩
  · rcases k with k | k <;> simp [k, zeroB, inB, ← List.length_eq_zero_iff] at h <;> omega
  · simp [k, zeroB, inB, ← List.length_eq_zero_iff] at h; omega
  · rcases k with k | k <;> simp [k, zeroB, inB, ← List.length_eq_zero_iff] at h <;> omega
  · simp [k, zeroB, inB, ← List.length_eq_zero_iff] at h; omega
  · simp [k, zeroB, inB, ← List.length_eq_zero_iff] at h; omega
theorem req_kind (x : XReq) (h : specReq x = true) : x.Kind = 1 ∨ x.Kind = 2 ∨ x.Kind = 3 ∨ x.Kind = 4 ∨ x.Kind = 5 ∨ x.Kind = 6 ∨ x.Kind = 15 ∨ x.Kind = 16 ∨ x.Kind = 22 ∨ x.Kind = 23 := by
  rw [← implReq_eq] at h
  have hk : isKind x.Kind = true := by
    cases hk : isKind x.Kind with
    | true => rfl
    | false => simp [implReq, hk] at h
  simp [isKind, inB] at hk
  omega
theorem all_step {l : List Bool} {m j : Nat} (hm : m ≤ j) (hj : j < l.length) (h : ((l.take j).drop m).all (fun b => !b) = true) (hb : l[j] = false) : ((l.take (j + 1)).drop m).all (fun b => !b) = true := by
  rw [List.take_succ_eq_append_getElem hj, List.drop_append_of_le_length (by rw [List.length_take]; omega), List.all_append, h, hb]
  rfl
theorem all_stop {l : List Bool} {m j : Nat} (hm : m ≤ j) (hj : j < l.length) (hb : l[j] = true) : (l.drop m).all (fun b => !b) = false := by
  rw [List.all_eq_false]
  refine ⟨l[j], ?_, by simp [hb]⟩
  rw [show l[j] = (l.drop m)[j - m]'(by rw [List.length_drop]; omega) by simp [show m + (j - m) = j by omega]]
  exact List.getElem_mem _
def partB (x : XPart) : Bool := inB x.Port 0 5 && inB x.Unit 1 247 && specReq x.Req
theorem m_port (n : Int) : PureC Try.prog 73 [i64v n] [boolv (inB n 0 5)] := by
  refine pureC_of (Γ := lookT tbl) (il := ilist) tg dr Try.func73 rfl (by kernel_rfl) rfl (Nat.le_of_ble_eq_true rfl) ?_
  (repeat' ((conv => whnf); first | refine br_i (fun _ => ?_) (fun _ => ?_) | (refine cur_leaf rfl rfl rfl ?_ ?_; · first | assumption | omega | exact hw ‹_›) | refine leaf_i rfl rfl ?_ | refine And.intro rfl ?_ | refine call_i (m_in _ _ _) ?_ | refine Or.inl (call_i (m_in _ _ _) ?_) | (refine And.intro ?_ ?_; · decide)))
  all_goals rfl
end Go.Proofs.Ytdgmaaiijkoedaa
