/- Ticks (RtuHear and LawsC have the same, of frames' seats). -/
import Derived.Test.YtciiiandmpjndaaXLineHear
namespace Go.Proofs.Ytciiiandmpjndaa
open Go Go.Vi
set_option linter.unusedVariables false
set_option linter.unusedSimpArgs false
set_option maxRecDepth 100000
def tickB (n : Int) : Bool := inB n 0 4294967295
def tickGap (a b : Int) : Int := if tickB a && tickB b then (b - a) % 4294967296 else 0
theorem maskB (a : Int) : IntKind.i64.wrap ((BitVec.ofInt IntKind.i64.bits a &&& BitVec.ofInt IntKind.i64.bits 4294967295).toNat : Nat) = a % 4294967296 := by
  have h1 : ((4294967295 : Int) % 2 ^ 64).toNat = 2 ^ 32 - 1 := by decide
  have h : (BitVec.ofInt IntKind.i64.bits a &&& BitVec.ofInt IntKind.i64.bits 4294967295).toNat = (a % 4294967296).toNat := by
    rw [BitVec.toNat_and, BitVec.toNat_ofInt, BitVec.toNat_ofInt]
    show ((a % 2 ^ 64).toNat &&& ((4294967295 : Int) % 2 ^ 64).toNat) = _
    rw [h1, Nat.and_two_pow_sub_one_eq_mod]
    omega
  rw [h]
  exact (wrap_ok (by omega) (by omega)).trans (by omega)
theorem s_TickGap (a b : Int) : PureC Try.prog 90 [i64v a, i64v b] [i64v (tickGap a b)] := by
  refine pureC_of (Γ := lookT tbl) (il := ilist) tg dr Try.func90 rfl (by kernel_rfl) rfl (Nat.le_of_ble_eq_true rfl) ?_
  (repeat' ((conv => whnf); first | refine br_i (fun _ => ?_) (fun _ => ?_) | (refine cur_leaf rfl rfl rfl ?_ ?_; · first | assumption | omega | exact hw ‹_›) | refine leaf_i rfl rfl ?_ | refine And.intro rfl ?_ | refine call_i (s_tick _) ?_ | (refine Or.inl ?_; (conv => whnf); refine call_i (s_tick _) ?_) | (refine And.intro ?_ ?_; · decide)))
  · rename_i h; simp at h; simp [tickGap, tickB, h]; rfl
  · rename_i h h2; simp at h h2; simp [tickGap, tickB, h, h2]; rfl
  · rename_i h h2
    simp at h h2
    rw [maskB, show tickGap a b = (b - a) % 4294967296 by simp [tickGap, tickB, h, h2]]
    have hw : IntKind.i64.wrap (b - a) = b - a := by simp [inB] at h h2; exact wrap_ok (by omega) (by omega)
    rw [hw]; rfl
theorem m_TickGap (a b : Int) : PureC Try.prog 78 [i64v a, i64v b] [i64v (tickGap a b)] := by
  refine pureC_of (Γ := lookT tbl) (il := ilist) tg dr Try.func78 rfl (by kernel_rfl) rfl (Nat.le_of_ble_eq_true rfl) ?_
  (repeat' ((conv => whnf); first | refine br_i (fun _ => ?_) (fun _ => ?_) | (refine cur_leaf rfl rfl rfl ?_ ?_; · first | assumption | omega | exact hw ‹_›) | refine leaf_i rfl rfl ?_ | refine And.intro rfl ?_ | refine call_i (m_tick _) ?_ | (refine Or.inl ?_; (conv => whnf); refine call_i (m_tick _) ?_) | (refine And.intro ?_ ?_; · decide)))
  · rename_i h; simp at h; simp [tickGap, tickB, h]; rfl
  · rename_i h h2; simp at h h2; simp [tickGap, tickB, h, h2]; rfl
  · rename_i h h2
    simp at h h2
    rw [show tickGap a b = (b - a) % 4294967296 by simp [tickGap, tickB, h, h2]]
    have hw : IntKind.i64.wrap (b - a) = b - a := by simp [inB] at h h2; exact wrap_ok (by omega) (by omega)
    simp [inB] at h h2
    have hw2 : IntKind.i64.wrap (b - a + 4294967295) = b - a + 4294967295 := wrap_ok (by omega) (by omega)
    have hw3 : IntKind.i64.wrap (b - a + 4294967295 + 1) = b - a + 4294967295 + 1 := wrap_ok (by omega) (by omega)
    rw [hw, hw2, hw3, Int.tmod_eq_emod_of_nonneg (by omega), show (b - a + 4294967295 + 1) % 4294967296 = (b - a) % 4294967296 by omega]
    rfl
def tickOn (t n : Int) : Int := if tickB t && tickB n then (t + n) % 4294967296 else 0
theorem m_TickOn (t n : Int) : PureC Try.prog 15 [i64v t, i64v n] [i64v (tickOn t n)] := by
  refine pureC_of (Γ := lookT tbl) (il := ilist) tg dr Try.func15 rfl (by kernel_rfl) rfl (Nat.le_of_ble_eq_true rfl) ?_
  (repeat' ((conv => whnf); first | refine br_i (fun _ => ?_) (fun _ => ?_) | (refine cur_leaf rfl rfl rfl ?_ ?_; · first | assumption | omega | exact hw ‹_›) | refine leaf_i rfl rfl ?_ | refine And.intro rfl ?_ | refine call_i (m_tick _) ?_ | (refine Or.inl ?_; (conv => whnf); refine call_i (m_tick _) ?_) | (refine And.intro ?_ ?_; · decide)))
  all_goals first | (rw [show tickOn t n = 0 by simp_all [tickOn, tickB]]; rfl) | skip
  all_goals (rename_i h1 h2; have a1 : tickB t = true := by simpa [tickB] using h1
             have a2 : tickB n = true := by simpa [tickB] using h2
             rw [show tickOn t n = (t + n) % 4294967296 by simp [tickOn, a1, a2]]
             simp [tickB, inB] at a1 a2
             rw [wrap_ok (x := t + n) (by omega) (by omega), Int.tmod_eq_emod_of_nonneg (by omega)]
             rfl)
theorem s_TickOn (t n : Int) : PureC Try.prog 58 [i64v t, i64v n] [i64v (tickOn t n)] := by
  refine pureC_of (Γ := lookT tbl) (il := ilist) tg dr Try.func58 rfl (by kernel_rfl) rfl (Nat.le_of_ble_eq_true rfl) ?_
  (repeat' ((conv => whnf); first | refine br_i (fun _ => ?_) (fun _ => ?_) | (refine cur_leaf rfl rfl rfl ?_ ?_; · first | assumption | omega | exact hw ‹_›) | refine leaf_i rfl rfl ?_ | refine And.intro rfl ?_ | refine call_i (s_tick _) ?_ | (refine Or.inl ?_; (conv => whnf); refine call_i (s_tick _) ?_) | (refine And.intro ?_ ?_; · decide)))
  all_goals first | (rw [show tickOn t n = 0 by simp_all [tickOn, tickB]]; rfl) | skip
  all_goals (rename_i h1 h2; have a1 : tickB t = true := by simpa [tickB] using h1
             have a2 : tickB n = true := by simpa [tickB] using h2
             rw [show tickOn t n = (t + n) % 4294967296 by simp [tickOn, a1, a2]]
             simp [tickB, inB] at a1 a2
             rw [wrap_ok (x := t + n) (by omega) (by omega), maskB]
             rfl)
def tickDue (now due : Int) : Bool := tickB now && tickB due && decide (tickGap due now < 2147483648)
theorem m_TickDue (a b : Int) : PureC Try.prog 54 [i64v a, i64v b] [boolv (tickDue a b)] := by
  refine pureC_of (Γ := lookT tbl) (il := ilist) tg dr Try.func54 rfl (by kernel_rfl) rfl (Nat.le_of_ble_eq_true rfl) ?_
  (repeat' ((conv => whnf); first | refine br_i (fun _ => ?_) (fun _ => ?_) | (refine cur_leaf rfl rfl rfl ?_ ?_; · first | assumption | omega | exact hw ‹_›) | refine leaf_i rfl rfl ?_ | refine And.intro rfl ?_ | refine call_i (m_tick _) ?_ | (refine Or.inl ?_; (conv => whnf); refine call_i (m_tick _) ?_) | refine call_i (m_TickGap _ _) ?_ | (refine Or.inl ?_; (conv => whnf); refine call_i (m_TickGap _ _) ?_) | (refine And.intro ?_ ?_; · decide)))
  all_goals (refine bool_leaf ?_; first | (simp_all [tickDue, tickB]; done) | (simp_all [tickDue, tickB]; omega))
theorem s_TickDue (a b : Int) : PureC Try.prog 79 [i64v a, i64v b] [boolv (tickDue a b)] := by
  refine pureC_of (Γ := lookT tbl) (il := ilist) tg dr Try.func79 rfl (by kernel_rfl) rfl (Nat.le_of_ble_eq_true rfl) ?_
  (repeat' ((conv => whnf); first | refine br_i (fun _ => ?_) (fun _ => ?_) | (refine cur_leaf rfl rfl rfl ?_ ?_; · first | assumption | omega | exact hw ‹_›) | refine leaf_i rfl rfl ?_ | refine And.intro rfl ?_ | refine call_i (s_tick _) ?_ | (refine Or.inl ?_; (conv => whnf); refine call_i (s_tick _) ?_) | refine call_i (s_TickGap _ _) ?_ | (refine Or.inl ?_; (conv => whnf); refine call_i (s_TickGap _ _) ?_) | (refine And.intro ?_ ?_; · decide)))
  all_goals (refine bool_leaf ?_; first | (simp_all [tickDue, tickB]; done) | (simp_all [tickDue, tickB]; omega))

end Go.Proofs.Ytciiiandmpjndaa
