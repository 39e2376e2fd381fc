/- The laws' small functions. -/
import Derived.Test.YtkpffcjgjiljeaaXFrame
namespace Go.Proofs.Ytkpffcjgjiljeaa
open Go Go.Vi
set_option linter.unusedVariables false
set_option linter.unusedSimpArgs false
set_option maxRecDepth 100000
def bigB (code : List Int) : Bool := decide ((code.length : Int) > 1048576)
theorem l_big (code : List Int) : PureC Try.prog 8 [bytesV code] [boolv (bigB code)] := by
  refine pureC_of (Γ := lookT tbl) (il := ilist) tg dr Try.func8 rfl (by kernel_rfl) rfl (Nat.le_of_ble_eq_true rfl) ?_
  (repeat' ((conv => whnf); first | refine br_i (fun _ => ?_) (fun _ => ?_) | (refine cur_leaf rfl rfl rfl ?_ ?_; · first | assumption | omega | exact hw ‹_›) | refine leaf_i rfl rfl ?_ | refine And.intro rfl ?_ | (refine And.intro ?_ ?_; · decide)))
  all_goals (refine bool_leaf ?_; first | (simp_all [bigB]; done) | (simp_all [bigB]; omega))
def atI (code : List Int) (i : Int) : Int := if i < (code.length : Int) then bAt code i else (i * 31 + (code.length : Int) * 7) % 256
theorem bAt_r {l : List Int} (h : isBytes l) (i : Int) : 0 ≤ bAt l i ∧ bAt l i < 256 := by
  unfold bAt
  rw [List.getD_eq_getElem?_getD]
  cases hk : l[i.toNat]? with
  | none => simp
  | some x => exact h x (List.mem_of_getElem? hk)
theorem atI_b {code : List Int} (h : isBytes code) (i : Int) : 0 ≤ atI code i ∧ atI code i < 256 := by
  unfold atI
  split
  · exact bAt_r h i
  · omega
theorem l_at (code : List Int) (hb : isBytes code) (hl : code.length ≤ 1048576) (i : Int) (hi : 0 ≤ i) (hi2 : i ≤ 1000) : PureC Try.prog 13 [bytesV code, i64v i] [i64v (atI code i)] := by
  refine pureC_of (Γ := lookT tbl) (il := ilist) tg dr Try.func13 rfl (by kernel_rfl) rfl (Nat.le_of_ble_eq_true rfl) ?_
  conv => whnf
  refine br_i (fun h => ?_) (fun h => ?_)
  · have h : i < code.length := by simpa using h
    conv => whnf
    refine ⟨_, idx_b code i ⟨hi, h⟩, ?_⟩
    conv => whnf
    refine leaf_i rfl rfl ?_
    have := bAt_r hb i
    rw [wrap_ok (by omega) (by omega)]
    unfold atI
    rw [if_pos h]
    rfl
  · have h : ¬ i < (code.length : Int) := by simpa using h
    conv => whnf
    refine And.intro (by decide) ?_
    conv => whnf
    refine leaf_i rfl rfl ?_
    rw [List.length_map, wrap_ok (x := i * 31) (by omega) (by omega), wrap_ok (x := (code.length : Int) * 7) (by omega) (by omega), wrap_ok (x := i * 31 + (code.length : Int) * 7) (by omega) (by omega), Int.tmod_eq_emod_of_nonneg (by omega)]
    unfold atI
    rw [if_neg h]
    rfl
def rtuNew (h w : Int) : XRtu := if rtuOk ⟨[], 0, false, h, w⟩ then ⟨[], 0, false, h, w⟩ else ⟨[], 0, false, 0, 0⟩
theorem m_RtuNew (h w : Int) : PureC Try.prog 17 [i64v h, i64v w] [(rtuNew h w).v] := by
  refine pureC_of (Γ := lookT tbl) (il := ilist) tg dr Try.func17 rfl (by kernel_rfl) rfl (Nat.le_of_ble_eq_true rfl) ?_
  (repeat' ((conv => whnf); first | refine br_i (fun _ => ?_) (fun _ => ?_) | (refine cur_leaf rfl rfl rfl ?_ ?_; · first | assumption | omega | exact hw ‹_›) | refine leaf_i rfl rfl ?_ | refine And.intro rfl ?_ | refine call_i (m_RtuOk ⟨[], 0, false, h, w⟩) ?_ | refine Or.inl (call_i (m_RtuOk ⟨[], 0, false, h, w⟩) ?_) | (refine And.intro ?_ ?_; · decide)))
  all_goals first | (rw [show rtuNew h w = ⟨[], 0, false, h, w⟩ by simp_all [rtuNew]]; rfl) | (rw [show rtuNew h w = ⟨[], 0, false, 0, 0⟩ by simp_all [rtuNew]]; rfl)
def tickOn (t n : Int) : Int := if tickB t && tickB n then (t + n) % 4294967296 else 0
theorem m_TickOn (t n : Int) : PureC Try.prog 23 [i64v t, i64v n] [i64v (tickOn t n)] := by
  refine pureC_of (Γ := lookT tbl) (il := ilist) tg dr Try.func23 rfl (by kernel_rfl) rfl (Nat.le_of_ble_eq_true rfl) ?_
  (repeat' ((conv => whnf); first | refine br_i (fun _ => ?_) (fun _ => ?_) | (refine cur_leaf rfl rfl rfl ?_ ?_; · first | assumption | omega | exact hw ‹_›) | refine leaf_i rfl rfl ?_ | refine And.intro rfl ?_ | refine call_i (m_tick _) ?_ | refine Or.inl (call_i (m_tick _) ?_) | (refine And.intro ?_ ?_; · decide)))
  all_goals first | (rw [show tickOn t n = 0 by simp_all [tickOn, tickB]]; rfl) | skip
  all_goals (rename_i h1 h2; have a1 : tickB t = true := by simpa [tickB] using h1
             have a2 : tickB n = true := by simpa [tickB] using h2
             rw [show tickOn t n = (t + n) % 4294967296 by simp [tickOn, a1, a2]]
             simp [tickB, inB] at a1 a2
             rw [wrap_ok (x := t + n) (by omega) (by omega), Int.tmod_eq_emod_of_nonneg (by omega)]
             rfl)
theorem putRtu_len {u : Int} {p : List Int} (hu : 0 ≤ u ∧ u < 256) (hp : 1 ≤ p.length ∧ p.length ≤ 253) : (putRtu u p).length = p.length + 3 := by
  have : pduB u p = true := by simp [pduB, inB]; omega
  simp [putRtu, this]
/-- One byte heard in time. -/
theorem hear_one {B : List Int} {L : Int} {bad : Bool} {h w b t : Int} (ok : rtuOk ⟨B, L, bad, h, w⟩ = true) (ht : tickB t = true) (hg : B.length = 0 ∨ tickGap L t < w) (hl : B.length ≤ 256) :
    rtuHear ⟨B, L, bad, h, w⟩ b t = (⟨B ++ [b], t, bad || (decide ((B.length : Int) > 0) && decide (tickGap L t ≥ h)), h, w⟩, []) := by
  have hs : waitStop ⟨B, L, bad, h, w⟩ t = true := by
    unfold waitStop
    rcases hg with hg | hg
    · simp [hg]
    · simp [hg]
  unfold rtuHear
  rw [wait_stop hs, ok, ht]
  simp only [Bool.not_true, Bool.or_self, Bool.false_eq_true, if_false]
  rw [if_pos (by omega)]
  congr 1
  unfold gapAt
  dsimp only
  cases decide ((B.length : Int) > 0) && decide (tickGap L t ≥ h) <;> cases bad <;> rfl

end Go.Proofs.Ytkpffcjgjiljeaa
