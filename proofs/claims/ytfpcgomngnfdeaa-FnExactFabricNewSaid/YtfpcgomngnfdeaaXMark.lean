/- Marks, written and found again. -/
import Derived.Test.YtfpcgomngnfdeaaXHelp
namespace Go.Proofs.Ytfpcgomngnfdeaa
open Go Go.Vi
set_option linter.unusedVariables false
set_option linter.unusedSimpArgs false
set_option maxRecDepth 100000
def XRule.mc (x : XRule) : Nat := 7
theorem mkRuleS (l : List XRule) : MkS Try.prog 23 42 7 (l.map XRule.ps) (sumF XRule.mc l) := by
  intro n h0 h1
  obtain ⟨N, ys, R, hlen, hN0, hN1, hyl, hR0, hR1, hRl, hst⟩ := chain XRule.ps XRule.mc (fun x n el => el = [.int .i64 (n), .int .i64 (w64 (n + 1)), .int .i64 (w64 (w64 (n + 1) + 1)), .int .i64 (w64 (w64 (w64 (n + 1) + 1) + 1)), .int .i64 (w64 (w64 (w64 (w64 (n + 1) + 1) + 1) + 1)), .int .i64 (w64 (w64 (w64 (w64 (w64 (n + 1) + 1) + 1) + 1) + 1)), .int .i64 (w64 (w64 (w64 (w64 (w64 (w64 (n + 1) + 1) + 1) + 1) + 1) + 1))] ∧ w64 (w64 (w64 (w64 (w64 (w64 (w64 (n + 1) + 1) + 1) + 1) + 1) + 1) + 1) = n + (XRule.mc x : Nat)) l n h0 h1 (by intro x; simp [XRule.mc]; try omega) (by
      intro x hx n h0 h1
      unfold XRule.mc at h1 ⊢
      have h_0 : n = n + ((0 : Nat) : Int) := by omega
      have h_1 : w64 (n + 1) = n + ((0 + 1 : Nat) : Int) := by rw [h_0]; exact (wrap_ok (by omega) (by omega)).trans (by omega)
      have h_2 : w64 (w64 (n + 1) + 1) = n + ((0 + 1 + 1 : Nat) : Int) := by rw [h_1]; exact (wrap_ok (by omega) (by omega)).trans (by omega)
      have h_3 : w64 (w64 (w64 (n + 1) + 1) + 1) = n + ((0 + 1 + 1 + 1 : Nat) : Int) := by rw [h_2]; exact (wrap_ok (by omega) (by omega)).trans (by omega)
      have h_4 : w64 (w64 (w64 (w64 (n + 1) + 1) + 1) + 1) = n + ((0 + 1 + 1 + 1 + 1 : Nat) : Int) := by rw [h_3]; exact (wrap_ok (by omega) (by omega)).trans (by omega)
      have h_5 : w64 (w64 (w64 (w64 (w64 (n + 1) + 1) + 1) + 1) + 1) = n + ((0 + 1 + 1 + 1 + 1 + 1 : Nat) : Int) := by rw [h_4]; exact (wrap_ok (by omega) (by omega)).trans (by omega)
      have h_6 : w64 (w64 (w64 (w64 (w64 (w64 (n + 1) + 1) + 1) + 1) + 1) + 1) = n + ((0 + 1 + 1 + 1 + 1 + 1 + 1 : Nat) : Int) := by rw [h_5]; exact (wrap_ok (by omega) (by omega)).trans (by omega)
      have h_7 : w64 (w64 (w64 (w64 (w64 (w64 (w64 (n + 1) + 1) + 1) + 1) + 1) + 1) + 1) = n + ((0 + 1 + 1 + 1 + 1 + 1 + 1 + 1 : Nat) : Int) := by rw [h_6]; exact (wrap_ok (by omega) (by omega)).trans (by omega)
      exact ⟨_, rfl, by rw [h_7]; try omega⟩)
  refine ⟨ys, ?_, ?_⟩
  · rw [← hN1, ← hR1, ← hR0]
    refine markC_of (Γ := lookT tbl) (il := ilist) tg drD Try.func23 rfl (by kernel_rfl) rfl (Nat.le_of_ble_eq_true rfl) (Nat.le_of_ble_eq_true rfl) rfl ?_
    conv => whnf
    refine loop_i (fun k : Nat => ⟨envL [(0, .c (.row 0)), (1, .c (.pv (.int .i64 (N k)))), (5, .c (.pv (.int .i64 k)))], resL [(0, .row true 7 (R k))], 64, 62⟩) (fun k => k ≤ l.length) (fun k => l.length - k) 0 (Nat.zero_le _) (le_mkD rfl ⟨⟨rfl, rfl⟩, ⟨i64_eq hN0.symm, rfl⟩, ⟨rfl, rfl⟩, trivial⟩ ⟨⟨rfl, rfl⟩, trivial⟩ rfl rfl) ?_
    intro k hk
    conv => whnf
    refine br_i (fun h => ?_) (fun h => ?_)
    · have hlt : k < l.length := by simpa [hRl k hk] using h
      obtain ⟨hNs, hn0, hn1, el, ⟨rfl, hfin⟩, hy, hget, hset⟩ := hst k hlt
      have hlm : k < (R k).length := by rw [hRl k hk]; exact hlt
      conv => whnf
      refine ⟨k, ⟨⟨rfl, hlm⟩, rfl⟩, ?_⟩
      conv => whnf
      refine ⟨(R k).set k [.int .i64 (N k), .int .i64 l[k].Space, .int .i64 l[k].Lo, .int .i64 l[k].Hi, .int .i64 l[k].Port, .int .i64 l[k].To, .int .i64 l[k].Shift], ⟨rfl, hlm, by decide, st0 hget rfl⟩, ?_⟩
      conv => whnf
      refine ⟨k, ⟨⟨rfl, ln1 hlm⟩, rfl⟩, ?_⟩
      conv => whnf
      refine ⟨(R k).set k [.int .i64 (N k), .int .i64 (w64 (N k + 1)), .int .i64 l[k].Lo, .int .i64 l[k].Hi, .int .i64 l[k].Port, .int .i64 l[k].To, .int .i64 l[k].Shift], ⟨rfl, ln1 hlm, by decide, st1 hlm rfl⟩, ?_⟩
      conv => whnf
      refine ⟨k, ⟨⟨rfl, ln1 hlm⟩, rfl⟩, ?_⟩
      conv => whnf
      refine ⟨(R k).set k [.int .i64 (N k), .int .i64 (w64 (N k + 1)), .int .i64 (w64 (w64 (N k + 1) + 1)), .int .i64 l[k].Hi, .int .i64 l[k].Port, .int .i64 l[k].To, .int .i64 l[k].Shift], ⟨rfl, ln1 hlm, by decide, st1 hlm rfl⟩, ?_⟩
      conv => whnf
      refine ⟨k, ⟨⟨rfl, ln1 hlm⟩, rfl⟩, ?_⟩
      conv => whnf
      refine ⟨(R k).set k [.int .i64 (N k), .int .i64 (w64 (N k + 1)), .int .i64 (w64 (w64 (N k + 1) + 1)), .int .i64 (w64 (w64 (w64 (N k + 1) + 1) + 1)), .int .i64 l[k].Port, .int .i64 l[k].To, .int .i64 l[k].Shift], ⟨rfl, ln1 hlm, by decide, st1 hlm rfl⟩, ?_⟩
      conv => whnf
      refine ⟨k, ⟨⟨rfl, ln1 hlm⟩, rfl⟩, ?_⟩
      conv => whnf
      refine ⟨(R k).set k [.int .i64 (N k), .int .i64 (w64 (N k + 1)), .int .i64 (w64 (w64 (N k + 1) + 1)), .int .i64 (w64 (w64 (w64 (N k + 1) + 1) + 1)), .int .i64 (w64 (w64 (w64 (w64 (N k + 1) + 1) + 1) + 1)), .int .i64 l[k].To, .int .i64 l[k].Shift], ⟨rfl, ln1 hlm, by decide, st1 hlm rfl⟩, ?_⟩
      conv => whnf
      refine ⟨k, ⟨⟨rfl, ln1 hlm⟩, rfl⟩, ?_⟩
      conv => whnf
      refine ⟨(R k).set k [.int .i64 (N k), .int .i64 (w64 (N k + 1)), .int .i64 (w64 (w64 (N k + 1) + 1)), .int .i64 (w64 (w64 (w64 (N k + 1) + 1) + 1)), .int .i64 (w64 (w64 (w64 (w64 (N k + 1) + 1) + 1) + 1)), .int .i64 (w64 (w64 (w64 (w64 (w64 (N k + 1) + 1) + 1) + 1) + 1)), .int .i64 l[k].Shift], ⟨rfl, ln1 hlm, by decide, st1 hlm rfl⟩, ?_⟩
      conv => whnf
      refine ⟨k, ⟨⟨rfl, ln1 hlm⟩, rfl⟩, ?_⟩
      conv => whnf
      refine ⟨(R k).set k [.int .i64 (N k), .int .i64 (w64 (N k + 1)), .int .i64 (w64 (w64 (N k + 1) + 1)), .int .i64 (w64 (w64 (w64 (N k + 1) + 1) + 1)), .int .i64 (w64 (w64 (w64 (w64 (N k + 1) + 1) + 1) + 1)), .int .i64 (w64 (w64 (w64 (w64 (w64 (N k + 1) + 1) + 1) + 1) + 1)), .int .i64 (w64 (w64 (w64 (w64 (w64 (w64 (N k + 1) + 1) + 1) + 1) + 1) + 1))], ⟨rfl, ln1 hlm, by decide, st1 hlm rfl⟩, ?_⟩
      conv => whnf
      exact ⟨k + 1, ⟨hlt, by omega⟩, le_mkD rfl ⟨⟨rfl, rfl⟩, ⟨i64_eq (hfin.trans hNs.symm), rfl⟩, ⟨ctr (by omega), rfl⟩, trivial⟩ ⟨⟨row_eq hset, rfl⟩, trivial⟩ rfl rfl⟩
    · have hk2 : k = l.length := by simp [hRl k hk] at h; omega
      subst hk2
      conv => whnf
      exact ⟨rfl, ⟨_, _, rfl, rfl⟩, trivial⟩
  · rw [← hN1]
    refine pureC_of (Γ := lookT tbl) (il := ilist) tg dr Try.func42 rfl (by kernel_rfl) rfl (Nat.le_of_ble_eq_true rfl) ?_
    conv => whnf
    refine loop_i (fun k : Nat => ⟨envL [(0, .c (.pv (.sl 7 ys))), (1, .c (.pv (.int .i64 (N k)))), (5, .c (.pv (.int .i64 k)))], resL [], 0, 76⟩) (fun k => k ≤ l.length) (fun k => l.length - k) 0 (Nat.zero_le _) (le_mk [] rfl ⟨⟨rfl, rfl⟩, ⟨i64_eq hN0.symm, rfl⟩, ⟨rfl, rfl⟩, trivial⟩ trivial rfl) ?_
    intro k hk
    conv => whnf
    refine br_i (fun h => ?_) (fun h => ?_)
    · have hlt : k < l.length := by simpa [hyl] using h
      obtain ⟨hNs, hn0, hn1, el, ⟨rfl, hfin⟩, hy, hget, hset⟩ := hst k hlt
      have hix : (0 ≤ (k : Int) ∧ ys[(k : Int).toNat]? = some [.int .i64 (N k), .int .i64 (w64 (N k + 1)), .int .i64 (w64 (w64 (N k + 1) + 1)), .int .i64 (w64 (w64 (w64 (N k + 1) + 1) + 1)), .int .i64 (w64 (w64 (w64 (w64 (N k + 1) + 1) + 1) + 1)), .int .i64 (w64 (w64 (w64 (w64 (w64 (N k + 1) + 1) + 1) + 1) + 1)), .int .i64 (w64 (w64 (w64 (w64 (w64 (w64 (N k + 1) + 1) + 1) + 1) + 1) + 1))]) ∧ 7 = 7 := ⟨⟨by omega, hy⟩, rfl⟩
      conv => whnf
      refine ⟨_, hix, ?_⟩
      conv => whnf
      refine br_i (fun h => absurd h (by simp)) (fun h => ?_)
      conv => whnf
      refine ⟨_, hix, ?_⟩
      conv => whnf
      refine br_i (fun h => absurd h (by simp)) (fun h => ?_)
      conv => whnf
      refine ⟨_, hix, ?_⟩
      conv => whnf
      refine br_i (fun h => absurd h (by simp)) (fun h => ?_)
      conv => whnf
      refine ⟨_, hix, ?_⟩
      conv => whnf
      refine br_i (fun h => absurd h (by simp)) (fun h => ?_)
      conv => whnf
      refine ⟨_, hix, ?_⟩
      conv => whnf
      refine br_i (fun h => absurd h (by simp)) (fun h => ?_)
      conv => whnf
      refine ⟨_, hix, ?_⟩
      conv => whnf
      refine br_i (fun h => absurd h (by simp)) (fun h => ?_)
      conv => whnf
      refine ⟨_, hix, ?_⟩
      conv => whnf
      refine br_i (fun h => absurd h (by simp)) (fun h => ?_)
      conv => whnf
      exact ⟨k + 1, ⟨hlt, by omega⟩, le_mk [] rfl ⟨⟨rfl, rfl⟩, ⟨i64_eq (hfin.trans hNs.symm), rfl⟩, ⟨ctr (by omega), rfl⟩, trivial⟩ trivial rfl⟩
    · have hk2 : k = l.length := by simp [hyl] at h; omega
      subst hk2
      conv => whnf
      exact leaf_i rfl rfl rfl
def XConfig.sc (x : XConfig) : Nat := 0 + sumF XRule.mc x.Rules
theorem mkConfig (x : XConfig) (n : Int) (h0 : 0 ≤ n) (h1 : n + x.sc ≤ 4611686018427387904) : ∃ (q1 : List (List PV)), MarkC Try.prog 10 x.v n (.agg [.int .i64 x.Wait, .int .i64 x.Tries, .sl 7 q1]) (n + x.sc) ∧ PureC Try.prog 26 [.agg [.int .i64 x.Wait, .int .i64 x.Tries, .sl 7 q1], i64v n] [i64v (n + x.sc)] := by
  unfold XConfig.sc at *
  have h_0 : n = n + ((0 : Nat) : Int) := by omega
  obtain ⟨q1, M1, H1⟩ := mkRuleS x.Rules (n) (by rw [h_0]; omega) (by rw [h_0]; omega)
  generalize hc1 : (n) + ((_ : Nat) : Int) = c1 at M1 H1
  have h_1 : c1 = n + ((0 + sumF XRule.mc x.Rules : Nat) : Int) := by rw [← hc1, h_0]; push_cast; omega
  have hfin : c1 = n + ((0 + sumF XRule.mc x.Rules : Nat) : Int) := by rw [h_1]; try omega
  refine ⟨q1, ?_, ?_⟩
  · refine markC_of (Γ := lookT tbl) (il := ilist) tg drD Try.func10 rfl (by kernel_rfl) rfl (Nat.le_of_ble_eq_true rfl) (Nat.le_of_ble_eq_true rfl) rfl ?_
    conv => whnf
    refine mark_i M1 rfl ?_
    conv => whnf
    exact ⟨i64s_eq hfin, rfl, rfl, ⟨_, _, rfl, rfl⟩, trivial⟩
  · refine pureC_of (Γ := lookT tbl) (il := ilist) tg dr Try.func26 rfl (by kernel_rfl) rfl (Nat.le_of_ble_eq_true rfl) ?_
    conv => whnf
    refine call_i H1 ?_
    conv => whnf
    refine br_i (fun h => absurd (dlt h) (by omega)) (fun h => ?_)
    conv => whnf
    exact leaf_i rfl rfl (i64l_eq hfin)
theorem mkIntS (l : List Int) : MkS Try.prog 40 45 1 (l.map intEl) (l.length) := by
  intro n h0 h1
  have hsum : sumF (fun _ => 1) l = l.length := by
    clear h1; induction l with
    | nil => rfl
    | cons a l ih => simp [sumF, ih]; omega
  rw [← hsum] at h1 ⊢
  obtain ⟨N, ys, R, hlen, hN0, hN1, hyl, hR0, hR1, hRl, hst⟩ := chain intEl (fun _ => 1) (fun x n el => el = [.int .i64 (n)] ∧ w64 (n + 1) = n + ((fun _ => 1) x : Nat)) l n h0 h1 (by intro x; simp) (by
      intro x hx n h0 h1
      have h_0 : n = n + ((0 : Nat) : Int) := by omega
      have h_1 : w64 (n + 1) = n + ((0 + 1 : Nat) : Int) := by rw [h_0]; exact (wrap_ok (by omega) (by omega)).trans (by omega)
      exact ⟨_, rfl, by rw [h_1]; try omega⟩)
  refine ⟨ys, ?_, ?_⟩
  · rw [← hN1, ← hR1, ← hR0]
    refine markC_of (Γ := lookT tbl) (il := ilist) tg drD Try.func40 rfl (by kernel_rfl) rfl (Nat.le_of_ble_eq_true rfl) (Nat.le_of_ble_eq_true rfl) rfl ?_
    conv => whnf
    refine loop_i (fun k : Nat => ⟨envL [(0, .c (.row 0)), (1, .c (.pv (.int .i64 (N k)))), (5, .c (.pv (.int .i64 k)))], resL [(0, .row true 1 (R k))], 64, 19⟩) (fun k => k ≤ l.length) (fun k => l.length - k) 0 (Nat.zero_le _) (le_mkD rfl ⟨⟨rfl, rfl⟩, ⟨i64_eq hN0.symm, rfl⟩, ⟨rfl, rfl⟩, trivial⟩ ⟨⟨rfl, rfl⟩, trivial⟩ rfl rfl) ?_
    intro k hk
    conv => whnf
    refine br_i (fun h => ?_) (fun h => ?_)
    · have hlt : k < l.length := by simpa [hRl k hk] using h
      obtain ⟨hNs, hn0, hn1, el, ⟨rfl, hfin⟩, hy, hget, hset⟩ := hst k hlt
      have hlm : k < (R k).length := by rw [hRl k hk]; exact hlt
      conv => whnf
      refine ⟨k, ⟨⟨rfl, hlm⟩, rfl⟩, ?_⟩
      conv => whnf
      refine ⟨(R k).set k [.int .i64 (N k)], ⟨rfl, hlm, by decide, st0 hget rfl⟩, ?_⟩
      conv => whnf
      exact ⟨k + 1, ⟨hlt, by omega⟩, le_mkD rfl ⟨⟨rfl, rfl⟩, ⟨i64_eq (hfin.trans hNs.symm), rfl⟩, ⟨ctr (by omega), rfl⟩, trivial⟩ ⟨⟨row_eq hset, rfl⟩, trivial⟩ rfl rfl⟩
    · have hk2 : k = l.length := by simp [hRl k hk] at h; omega
      subst hk2
      conv => whnf
      exact ⟨rfl, ⟨_, _, rfl, rfl⟩, trivial⟩
  · rw [← hN1]
    refine pureC_of (Γ := lookT tbl) (il := ilist) tg dr Try.func45 rfl (by kernel_rfl) rfl (Nat.le_of_ble_eq_true rfl) ?_
    conv => whnf
    refine loop_i (fun k : Nat => ⟨envL [(0, .c (.pv (.sl 1 ys))), (1, .c (.pv (.int .i64 (N k)))), (5, .c (.pv (.int .i64 k)))], resL [], 0, 21⟩) (fun k => k ≤ l.length) (fun k => l.length - k) 0 (Nat.zero_le _) (le_mk [] rfl ⟨⟨rfl, rfl⟩, ⟨i64_eq hN0.symm, rfl⟩, ⟨rfl, rfl⟩, trivial⟩ trivial rfl) ?_
    intro k hk
    conv => whnf
    refine br_i (fun h => ?_) (fun h => ?_)
    · have hlt : k < l.length := by simpa [hyl] using h
      obtain ⟨hNs, hn0, hn1, el, ⟨rfl, hfin⟩, hy, hget, hset⟩ := hst k hlt
      have hix : (0 ≤ (k : Int) ∧ ys[(k : Int).toNat]? = some [.int .i64 (N k)]) ∧ 1 = 1 := ⟨⟨by omega, hy⟩, rfl⟩
      conv => whnf
      refine ⟨_, hix, ?_⟩
      conv => whnf
      refine br_i (fun h => absurd h (by simp)) (fun h => ?_)
      conv => whnf
      exact ⟨k + 1, ⟨hlt, by omega⟩, le_mk [] rfl ⟨⟨rfl, rfl⟩, ⟨i64_eq (hfin.trans hNs.symm), rfl⟩, ⟨ctr (by omega), rfl⟩, trivial⟩ trivial rfl⟩
    · have hk2 : k = l.length := by simp [hyl] at h; omega
      subst hk2
      conv => whnf
      exact leaf_i rfl rfl rfl
theorem mkBoolS (l : List Bool) : MkS Try.prog 41 46 1 (l.map boolEl) (l.length) := by
  intro n h0 h1
  have hsum : sumF (fun _ => 1) l = l.length := by
    clear h1; induction l with
    | nil => rfl
    | cons a l ih => simp [sumF, ih]; omega
  rw [← hsum] at h1 ⊢
  obtain ⟨N, ys, R, hlen, hN0, hN1, hyl, hR0, hR1, hRl, hst⟩ := chain boolEl (fun _ => 1) (fun x n el => el = [.bool (Int.tmod (n) 3 == 0)] ∧ w64 (n + 1) = n + ((fun _ => 1) x : Nat)) l n h0 h1 (by intro x; simp) (by
      intro x hx n h0 h1
      have h_0 : n = n + ((0 : Nat) : Int) := by omega
      have h_1 : w64 (n + 1) = n + ((0 + 1 : Nat) : Int) := by rw [h_0]; exact (wrap_ok (by omega) (by omega)).trans (by omega)
      exact ⟨_, rfl, by rw [h_1]; try omega⟩)
  refine ⟨ys, ?_, ?_⟩
  · rw [← hN1, ← hR1, ← hR0]
    refine markC_of (Γ := lookT tbl) (il := ilist) tg drD Try.func41 rfl (by kernel_rfl) rfl (Nat.le_of_ble_eq_true rfl) (Nat.le_of_ble_eq_true rfl) rfl ?_
    conv => whnf
    refine loop_i (fun k : Nat => ⟨envL [(0, .c (.row 0)), (1, .c (.pv (.int .i64 (N k)))), (5, .c (.pv (.int .i64 k)))], resL [(0, .row true 1 (R k))], 64, 21⟩) (fun k => k ≤ l.length) (fun k => l.length - k) 0 (Nat.zero_le _) (le_mkD rfl ⟨⟨rfl, rfl⟩, ⟨i64_eq hN0.symm, rfl⟩, ⟨rfl, rfl⟩, trivial⟩ ⟨⟨rfl, rfl⟩, trivial⟩ rfl rfl) ?_
    intro k hk
    conv => whnf
    refine br_i (fun h => ?_) (fun h => ?_)
    · have hlt : k < l.length := by simpa [hRl k hk] using h
      obtain ⟨hNs, hn0, hn1, el, ⟨rfl, hfin⟩, hy, hget, hset⟩ := hst k hlt
      have hlm : k < (R k).length := by rw [hRl k hk]; exact hlt
      conv => whnf
      refine And.intro (by decide) ?_
      conv => whnf
      refine ⟨k, ⟨⟨rfl, hlm⟩, rfl⟩, ?_⟩
      conv => whnf
      refine ⟨(R k).set k [.bool (Int.tmod (N k) 3 == 0)], ⟨rfl, hlm, by decide, st0 hget rfl⟩, ?_⟩
      conv => whnf
      exact ⟨k + 1, ⟨hlt, by omega⟩, le_mkD rfl ⟨⟨rfl, rfl⟩, ⟨i64_eq (hfin.trans hNs.symm), rfl⟩, ⟨ctr (by omega), rfl⟩, trivial⟩ ⟨⟨row_eq hset, rfl⟩, trivial⟩ rfl rfl⟩
    · have hk2 : k = l.length := by simp [hRl k hk] at h; omega
      subst hk2
      conv => whnf
      exact ⟨rfl, ⟨_, _, rfl, rfl⟩, trivial⟩
  · rw [← hN1]
    refine pureC_of (Γ := lookT tbl) (il := ilist) tg dr Try.func46 rfl (by kernel_rfl) rfl (Nat.le_of_ble_eq_true rfl) ?_
    conv => whnf
    refine loop_i (fun k : Nat => ⟨envL [(0, .c (.pv (.sl 1 ys))), (1, .c (.pv (.int .i64 (N k)))), (5, .c (.pv (.int .i64 k)))], resL [], 0, 23⟩) (fun k => k ≤ l.length) (fun k => l.length - k) 0 (Nat.zero_le _) (le_mk [] rfl ⟨⟨rfl, rfl⟩, ⟨i64_eq hN0.symm, rfl⟩, ⟨rfl, rfl⟩, trivial⟩ trivial rfl) ?_
    intro k hk
    conv => whnf
    refine br_i (fun h => ?_) (fun h => ?_)
    · have hlt : k < l.length := by simpa [hyl] using h
      obtain ⟨hNs, hn0, hn1, el, ⟨rfl, hfin⟩, hy, hget, hset⟩ := hst k hlt
      have hix : (0 ≤ (k : Int) ∧ ys[(k : Int).toNat]? = some [.bool (Int.tmod (N k) 3 == 0)]) ∧ 1 = 1 := ⟨⟨by omega, hy⟩, rfl⟩
      conv => whnf
      refine ⟨_, hix, ?_⟩
      conv => whnf
      refine And.intro (by decide) ?_
      conv => whnf
      refine br_i (fun h => absurd h (by simp)) (fun h => ?_)
      conv => whnf
      exact ⟨k + 1, ⟨hlt, by omega⟩, le_mk [] rfl ⟨⟨rfl, rfl⟩, ⟨i64_eq (hfin.trans hNs.symm), rfl⟩, ⟨ctr (by omega), rfl⟩, trivial⟩ trivial rfl⟩
    · have hk2 : k = l.length := by simp [hyl] at h; omega
      subst hk2
      conv => whnf
      exact leaf_i rfl rfl rfl
def XPart.mc (x : XPart) : Nat := 6 + x.Req.Words.length + x.Req.Bits.length
theorem mkPartS (l : List XPart) : MkS Try.prog 55 57 8 (l.map XPart.ps) (sumF XPart.mc l) := by
  intro n h0 h1
  obtain ⟨N, ys, R, hlen, hN0, hN1, hyl, hR0, hR1, hRl, hst⟩ := chain XPart.ps XPart.mc (fun x n el => ∃ (q1 : List (List PV)) (m1 : Int) (q2 : List (List PV)) (m2 : Int), el = [.int .i64 (n), .int .i64 (w64 (n + 1)), .int .i64 (w64 (w64 (n + 1) + 1)), .int .i64 (w64 (w64 (w64 (n + 1) + 1) + 1)), .int .i64 (w64 (w64 (w64 (w64 (n + 1) + 1) + 1) + 1)), .sl 1 q1, .sl 1 q2, .int .i64 (m2)] ∧ MarkC Try.prog 40 (.one (.sl 1 (x.Req.Words.map intEl))) (w64 (w64 (w64 (w64 (w64 (n + 1) + 1) + 1) + 1) + 1)) (.one (.sl 1 q1)) m1 ∧ PureC Try.prog 45 [.one (.sl 1 q1), i64v (w64 (w64 (w64 (w64 (w64 (n + 1) + 1) + 1) + 1) + 1))] [i64v m1] ∧ 0 ≤ m1 ∧ MarkC Try.prog 41 (.one (.sl 1 (x.Req.Bits.map boolEl))) (m1) (.one (.sl 1 q2)) m2 ∧ PureC Try.prog 46 [.one (.sl 1 q2), i64v (m1)] [i64v m2] ∧ 0 ≤ m2 ∧ w64 (m2 + 1) = n + (XPart.mc x : Nat)) l n h0 h1 (by intro x; simp [XPart.mc]; try omega) (by
      intro x hx n h0 h1
      unfold XPart.mc at h1 ⊢
      have h_0 : n = n + ((0 : Nat) : Int) := by omega
      have h_1 : w64 (n + 1) = n + ((0 + 1 : Nat) : Int) := by rw [h_0]; exact (wrap_ok (by omega) (by omega)).trans (by omega)
      have h_2 : w64 (w64 (n + 1) + 1) = n + ((0 + 1 + 1 : Nat) : Int) := by rw [h_1]; exact (wrap_ok (by omega) (by omega)).trans (by omega)
      have h_3 : w64 (w64 (w64 (n + 1) + 1) + 1) = n + ((0 + 1 + 1 + 1 : Nat) : Int) := by rw [h_2]; exact (wrap_ok (by omega) (by omega)).trans (by omega)
      have h_4 : w64 (w64 (w64 (w64 (n + 1) + 1) + 1) + 1) = n + ((0 + 1 + 1 + 1 + 1 : Nat) : Int) := by rw [h_3]; exact (wrap_ok (by omega) (by omega)).trans (by omega)
      have h_5 : w64 (w64 (w64 (w64 (w64 (n + 1) + 1) + 1) + 1) + 1) = n + ((0 + 1 + 1 + 1 + 1 + 1 : Nat) : Int) := by rw [h_4]; exact (wrap_ok (by omega) (by omega)).trans (by omega)
      obtain ⟨q1, M1, H1⟩ := mkIntS x.Req.Words (w64 (w64 (w64 (w64 (w64 (n + 1) + 1) + 1) + 1) + 1)) (by rw [h_5]; omega) (by rw [h_5]; omega)
      generalize hc1 : (w64 (w64 (w64 (w64 (w64 (n + 1) + 1) + 1) + 1) + 1)) + _ = c1 at M1 H1
      have h_6 : c1 = n + ((0 + 1 + 1 + 1 + 1 + 1 + x.Req.Words.length : Nat) : Int) := by rw [← hc1, h_5]; push_cast; omega
      obtain ⟨q2, M2, H2⟩ := mkBoolS x.Req.Bits (c1) (by rw [h_6]; omega) (by rw [h_6]; omega)
      generalize hc2 : (c1) + _ = c2 at M2 H2
      have h_7 : c2 = n + ((0 + 1 + 1 + 1 + 1 + 1 + x.Req.Words.length + x.Req.Bits.length : Nat) : Int) := by rw [← hc2, h_6]; push_cast; omega
      have h_8 : w64 (c2 + 1) = n + ((0 + 1 + 1 + 1 + 1 + 1 + x.Req.Words.length + x.Req.Bits.length + 1 : Nat) : Int) := by rw [h_7]; exact (wrap_ok (by omega) (by omega)).trans (by omega)
      exact ⟨_, q1, c1, q2, c2, rfl, M1, H1, by omega, M2, H2, by omega, by rw [h_8]; try omega⟩)
  refine ⟨ys, ?_, ?_⟩
  · rw [← hN1, ← hR1, ← hR0]
    refine markC_of (Γ := lookT tbl) (il := ilist) tg drD Try.func55 rfl (by kernel_rfl) rfl (Nat.le_of_ble_eq_true rfl) (Nat.le_of_ble_eq_true rfl) rfl ?_
    conv => whnf
    refine loop_i (fun k : Nat => ⟨envL [(0, .c (.row 0)), (1, .c (.pv (.int .i64 (N k)))), (5, .c (.pv (.int .i64 k)))], resL [(0, .row true 8 (R k))], 64, 75⟩) (fun k => k ≤ l.length) (fun k => l.length - k) 0 (Nat.zero_le _) (le_mkD rfl ⟨⟨rfl, rfl⟩, ⟨i64_eq hN0.symm, rfl⟩, ⟨rfl, rfl⟩, trivial⟩ ⟨⟨rfl, rfl⟩, trivial⟩ rfl rfl) ?_
    intro k hk
    conv => whnf
    refine br_i (fun h => ?_) (fun h => ?_)
    · have hlt : k < l.length := by simpa [hRl k hk] using h
      obtain ⟨hNs, hn0, hn1, el, ⟨q1, m1, q2, m2, rfl, M1, H1, P1, M2, H2, P2, hfin⟩, hy, hget, hset⟩ := hst k hlt
      have hlm : k < (R k).length := by rw [hRl k hk]; exact hlt
      conv => whnf
      refine ⟨k, ⟨⟨rfl, hlm⟩, rfl⟩, ?_⟩
      conv => whnf
      refine ⟨(R k).set k [.int .i64 (N k), .int .i64 l[k].Unit, .int .i64 l[k].Req.Kind, .int .i64 l[k].Req.At, .int .i64 l[k].Req.N, intsP l[k].Req.Words, boolsP l[k].Req.Bits, .int .i64 l[k].Req.WAt], ⟨rfl, hlm, by decide, st0 hget rfl⟩, ?_⟩
      conv => whnf
      refine ⟨k, ⟨⟨rfl, ln1 hlm⟩, rfl⟩, ?_⟩
      conv => whnf
      refine ⟨(R k).set k [.int .i64 (N k), .int .i64 (w64 (N k + 1)), .int .i64 l[k].Req.Kind, .int .i64 l[k].Req.At, .int .i64 l[k].Req.N, intsP l[k].Req.Words, boolsP l[k].Req.Bits, .int .i64 l[k].Req.WAt], ⟨rfl, ln1 hlm, by decide, st1 hlm rfl⟩, ?_⟩
      conv => whnf
      refine ⟨k, ⟨⟨rfl, ln1 hlm⟩, rfl⟩, ?_⟩
      conv => whnf
      refine ⟨(R k).set k [.int .i64 (N k), .int .i64 (w64 (N k + 1)), .int .i64 (w64 (w64 (N k + 1) + 1)), .int .i64 l[k].Req.At, .int .i64 l[k].Req.N, intsP l[k].Req.Words, boolsP l[k].Req.Bits, .int .i64 l[k].Req.WAt], ⟨rfl, ln1 hlm, by decide, st1 hlm rfl⟩, ?_⟩
      conv => whnf
      refine ⟨k, ⟨⟨rfl, ln1 hlm⟩, rfl⟩, ?_⟩
      conv => whnf
      refine ⟨(R k).set k [.int .i64 (N k), .int .i64 (w64 (N k + 1)), .int .i64 (w64 (w64 (N k + 1) + 1)), .int .i64 (w64 (w64 (w64 (N k + 1) + 1) + 1)), .int .i64 l[k].Req.N, intsP l[k].Req.Words, boolsP l[k].Req.Bits, .int .i64 l[k].Req.WAt], ⟨rfl, ln1 hlm, by decide, st1 hlm rfl⟩, ?_⟩
      conv => whnf
      refine ⟨k, ⟨⟨rfl, ln1 hlm⟩, rfl⟩, ?_⟩
      conv => whnf
      refine ⟨(R k).set k [.int .i64 (N k), .int .i64 (w64 (N k + 1)), .int .i64 (w64 (w64 (N k + 1) + 1)), .int .i64 (w64 (w64 (w64 (N k + 1) + 1) + 1)), .int .i64 (w64 (w64 (w64 (w64 (N k + 1) + 1) + 1) + 1)), intsP l[k].Req.Words, boolsP l[k].Req.Bits, .int .i64 l[k].Req.WAt], ⟨rfl, ln1 hlm, by decide, st1 hlm rfl⟩, ?_⟩
      conv => whnf
      refine ⟨k, ⟨⟨rfl, ln1 hlm⟩, rfl⟩, ?_⟩
      conv => whnf
      refine ⟨_, _, q1, m1, (R k).set k [.int .i64 (N k), .int .i64 (w64 (N k + 1)), .int .i64 (w64 (w64 (N k + 1) + 1)), .int .i64 (w64 (w64 (w64 (N k + 1) + 1) + 1)), .int .i64 (w64 (w64 (w64 (w64 (N k + 1) + 1) + 1) + 1)), .sl 1 q1, boolsP l[k].Req.Bits, .int .i64 l[k].Req.WAt], ⟨⟨⟨rfl, at1 hlm rfl⟩, M1⟩, st1 hlm rfl⟩, ?_⟩
      conv => whnf
      refine ⟨k, ⟨⟨rfl, ln1 hlm⟩, rfl⟩, ?_⟩
      conv => whnf
      refine ⟨_, _, q2, m2, (R k).set k [.int .i64 (N k), .int .i64 (w64 (N k + 1)), .int .i64 (w64 (w64 (N k + 1) + 1)), .int .i64 (w64 (w64 (w64 (N k + 1) + 1) + 1)), .int .i64 (w64 (w64 (w64 (w64 (N k + 1) + 1) + 1) + 1)), .sl 1 q1, .sl 1 q2, .int .i64 l[k].Req.WAt], ⟨⟨⟨rfl, at1 hlm rfl⟩, M2⟩, st1 hlm rfl⟩, ?_⟩
      conv => whnf
      refine ⟨k, ⟨⟨rfl, ln1 hlm⟩, rfl⟩, ?_⟩
      conv => whnf
      refine ⟨(R k).set k [.int .i64 (N k), .int .i64 (w64 (N k + 1)), .int .i64 (w64 (w64 (N k + 1) + 1)), .int .i64 (w64 (w64 (w64 (N k + 1) + 1) + 1)), .int .i64 (w64 (w64 (w64 (w64 (N k + 1) + 1) + 1) + 1)), .sl 1 q1, .sl 1 q2, .int .i64 (m2)], ⟨rfl, ln1 hlm, by decide, st1 hlm rfl⟩, ?_⟩
      conv => whnf
      exact ⟨k + 1, ⟨hlt, by omega⟩, le_mkD rfl ⟨⟨rfl, rfl⟩, ⟨i64_eq (hfin.trans hNs.symm), rfl⟩, ⟨ctr (by omega), rfl⟩, trivial⟩ ⟨⟨row_eq hset, rfl⟩, trivial⟩ rfl rfl⟩
    · have hk2 : k = l.length := by simp [hRl k hk] at h; omega
      subst hk2
      conv => whnf
      exact ⟨rfl, ⟨_, _, rfl, rfl⟩, trivial⟩
  · rw [← hN1]
    refine pureC_of (Γ := lookT tbl) (il := ilist) tg dr Try.func57 rfl (by kernel_rfl) rfl (Nat.le_of_ble_eq_true rfl) ?_
    conv => whnf
    refine loop_i (fun k : Nat => ⟨envL [(0, .c (.pv (.sl 8 ys))), (1, .c (.pv (.int .i64 (N k)))), (5, .c (.pv (.int .i64 k)))], resL [], 0, 91⟩) (fun k => k ≤ l.length) (fun k => l.length - k) 0 (Nat.zero_le _) (le_mk [] rfl ⟨⟨rfl, rfl⟩, ⟨i64_eq hN0.symm, rfl⟩, ⟨rfl, rfl⟩, trivial⟩ trivial rfl) ?_
    intro k hk
    conv => whnf
    refine br_i (fun h => ?_) (fun h => ?_)
    · have hlt : k < l.length := by simpa [hyl] using h
      obtain ⟨hNs, hn0, hn1, el, ⟨q1, m1, q2, m2, rfl, M1, H1, P1, M2, H2, P2, hfin⟩, hy, hget, hset⟩ := hst k hlt
      have hix : (0 ≤ (k : Int) ∧ ys[(k : Int).toNat]? = some [.int .i64 (N k), .int .i64 (w64 (N k + 1)), .int .i64 (w64 (w64 (N k + 1) + 1)), .int .i64 (w64 (w64 (w64 (N k + 1) + 1) + 1)), .int .i64 (w64 (w64 (w64 (w64 (N k + 1) + 1) + 1) + 1)), .sl 1 q1, .sl 1 q2, .int .i64 (m2)]) ∧ 8 = 8 := ⟨⟨by omega, hy⟩, rfl⟩
      conv => whnf
      refine ⟨_, hix, ?_⟩
      conv => whnf
      refine br_i (fun h => absurd h (by simp)) (fun h => ?_)
      conv => whnf
      refine ⟨_, hix, ?_⟩
      conv => whnf
      refine br_i (fun h => absurd h (by simp)) (fun h => ?_)
      conv => whnf
      refine ⟨_, hix, ?_⟩
      conv => whnf
      refine br_i (fun h => absurd h (by simp)) (fun h => ?_)
      conv => whnf
      refine ⟨_, hix, ?_⟩
      conv => whnf
      refine br_i (fun h => absurd h (by simp)) (fun h => ?_)
      conv => whnf
      refine ⟨_, hix, ?_⟩
      conv => whnf
      refine br_i (fun h => absurd h (by simp)) (fun h => ?_)
      conv => whnf
      refine ⟨_, hix, ?_⟩
      conv => whnf
      refine call_i H1 ?_
      conv => whnf
      refine br_i (fun h => absurd (dlt h) (by omega)) (fun h => ?_)
      conv => whnf
      refine ⟨_, hix, ?_⟩
      conv => whnf
      refine call_i H2 ?_
      conv => whnf
      refine br_i (fun h => absurd (dlt h) (by omega)) (fun h => ?_)
      conv => whnf
      refine ⟨_, hix, ?_⟩
      conv => whnf
      refine br_i (fun h => absurd h (by simp)) (fun h => ?_)
      conv => whnf
      exact ⟨k + 1, ⟨hlt, by omega⟩, le_mk [] rfl ⟨⟨rfl, rfl⟩, ⟨i64_eq (hfin.trans hNs.symm), rfl⟩, ⟨ctr (by omega), rfl⟩, trivial⟩ trivial rfl⟩
    · have hk2 : k = l.length := by simp [hyl] at h; omega
      subst hk2
      conv => whnf
      exact leaf_i rfl rfl rfl
def XResp.mc (x : XResp) : Nat := 4 + x.Words.length + x.Bits.length
theorem mkRespS (l : List XResp) : MkS Try.prog 56 58 6 (l.map XResp.ps) (sumF XResp.mc l) := by
  intro n h0 h1
  obtain ⟨N, ys, R, hlen, hN0, hN1, hyl, hR0, hR1, hRl, hst⟩ := chain XResp.ps XResp.mc (fun x n el => ∃ (q1 : List (List PV)) (m1 : Int) (q2 : List (List PV)) (m2 : Int), el = [.int .i64 (n), .int .i64 (w64 (n + 1)), .int .i64 (w64 (w64 (n + 1) + 1)), .int .i64 (w64 (w64 (w64 (n + 1) + 1) + 1)), .sl 1 q1, .sl 1 q2] ∧ MarkC Try.prog 40 (.one (.sl 1 (x.Words.map intEl))) (w64 (w64 (w64 (w64 (n + 1) + 1) + 1) + 1)) (.one (.sl 1 q1)) m1 ∧ PureC Try.prog 45 [.one (.sl 1 q1), i64v (w64 (w64 (w64 (w64 (n + 1) + 1) + 1) + 1))] [i64v m1] ∧ 0 ≤ m1 ∧ MarkC Try.prog 41 (.one (.sl 1 (x.Bits.map boolEl))) (m1) (.one (.sl 1 q2)) m2 ∧ PureC Try.prog 46 [.one (.sl 1 q2), i64v (m1)] [i64v m2] ∧ 0 ≤ m2 ∧ m2 = n + (XResp.mc x : Nat)) l n h0 h1 (by intro x; simp [XResp.mc]; try omega) (by
      intro x hx n h0 h1
      unfold XResp.mc at h1 ⊢
      have h_0 : n = n + ((0 : Nat) : Int) := by omega
      have h_1 : w64 (n + 1) = n + ((0 + 1 : Nat) : Int) := by rw [h_0]; exact (wrap_ok (by omega) (by omega)).trans (by omega)
      have h_2 : w64 (w64 (n + 1) + 1) = n + ((0 + 1 + 1 : Nat) : Int) := by rw [h_1]; exact (wrap_ok (by omega) (by omega)).trans (by omega)
      have h_3 : w64 (w64 (w64 (n + 1) + 1) + 1) = n + ((0 + 1 + 1 + 1 : Nat) : Int) := by rw [h_2]; exact (wrap_ok (by omega) (by omega)).trans (by omega)
      have h_4 : w64 (w64 (w64 (w64 (n + 1) + 1) + 1) + 1) = n + ((0 + 1 + 1 + 1 + 1 : Nat) : Int) := by rw [h_3]; exact (wrap_ok (by omega) (by omega)).trans (by omega)
      obtain ⟨q1, M1, H1⟩ := mkIntS x.Words (w64 (w64 (w64 (w64 (n + 1) + 1) + 1) + 1)) (by rw [h_4]; omega) (by rw [h_4]; omega)
      generalize hc1 : (w64 (w64 (w64 (w64 (n + 1) + 1) + 1) + 1)) + _ = c1 at M1 H1
      have h_5 : c1 = n + ((0 + 1 + 1 + 1 + 1 + x.Words.length : Nat) : Int) := by rw [← hc1, h_4]; push_cast; omega
      obtain ⟨q2, M2, H2⟩ := mkBoolS x.Bits (c1) (by rw [h_5]; omega) (by rw [h_5]; omega)
      generalize hc2 : (c1) + _ = c2 at M2 H2
      have h_6 : c2 = n + ((0 + 1 + 1 + 1 + 1 + x.Words.length + x.Bits.length : Nat) : Int) := by rw [← hc2, h_5]; push_cast; omega
      exact ⟨_, q1, c1, q2, c2, rfl, M1, H1, by omega, M2, H2, by omega, by rw [h_6]; try omega⟩)
  refine ⟨ys, ?_, ?_⟩
  · rw [← hN1, ← hR1, ← hR0]
    refine markC_of (Γ := lookT tbl) (il := ilist) tg drD Try.func56 rfl (by kernel_rfl) rfl (Nat.le_of_ble_eq_true rfl) (Nat.le_of_ble_eq_true rfl) rfl ?_
    conv => whnf
    refine loop_i (fun k : Nat => ⟨envL [(0, .c (.row 0)), (1, .c (.pv (.int .i64 (N k)))), (5, .c (.pv (.int .i64 k)))], resL [(0, .row true 6 (R k))], 64, 55⟩) (fun k => k ≤ l.length) (fun k => l.length - k) 0 (Nat.zero_le _) (le_mkD rfl ⟨⟨rfl, rfl⟩, ⟨i64_eq hN0.symm, rfl⟩, ⟨rfl, rfl⟩, trivial⟩ ⟨⟨rfl, rfl⟩, trivial⟩ rfl rfl) ?_
    intro k hk
    conv => whnf
    refine br_i (fun h => ?_) (fun h => ?_)
    · have hlt : k < l.length := by simpa [hRl k hk] using h
      obtain ⟨hNs, hn0, hn1, el, ⟨q1, m1, q2, m2, rfl, M1, H1, P1, M2, H2, P2, hfin⟩, hy, hget, hset⟩ := hst k hlt
      have hlm : k < (R k).length := by rw [hRl k hk]; exact hlt
      conv => whnf
      refine ⟨k, ⟨⟨rfl, hlm⟩, rfl⟩, ?_⟩
      conv => whnf
      refine ⟨(R k).set k [.int .i64 (N k), .int .i64 l[k].Fault, .int .i64 l[k].At, .int .i64 l[k].N, intsP l[k].Words, boolsP l[k].Bits], ⟨rfl, hlm, by decide, st0 hget rfl⟩, ?_⟩
      conv => whnf
      refine ⟨k, ⟨⟨rfl, ln1 hlm⟩, rfl⟩, ?_⟩
      conv => whnf
      refine ⟨(R k).set k [.int .i64 (N k), .int .i64 (w64 (N k + 1)), .int .i64 l[k].At, .int .i64 l[k].N, intsP l[k].Words, boolsP l[k].Bits], ⟨rfl, ln1 hlm, by decide, st1 hlm rfl⟩, ?_⟩
      conv => whnf
      refine ⟨k, ⟨⟨rfl, ln1 hlm⟩, rfl⟩, ?_⟩
      conv => whnf
      refine ⟨(R k).set k [.int .i64 (N k), .int .i64 (w64 (N k + 1)), .int .i64 (w64 (w64 (N k + 1) + 1)), .int .i64 l[k].N, intsP l[k].Words, boolsP l[k].Bits], ⟨rfl, ln1 hlm, by decide, st1 hlm rfl⟩, ?_⟩
      conv => whnf
      refine ⟨k, ⟨⟨rfl, ln1 hlm⟩, rfl⟩, ?_⟩
      conv => whnf
      refine ⟨(R k).set k [.int .i64 (N k), .int .i64 (w64 (N k + 1)), .int .i64 (w64 (w64 (N k + 1) + 1)), .int .i64 (w64 (w64 (w64 (N k + 1) + 1) + 1)), intsP l[k].Words, boolsP l[k].Bits], ⟨rfl, ln1 hlm, by decide, st1 hlm rfl⟩, ?_⟩
      conv => whnf
      refine ⟨k, ⟨⟨rfl, ln1 hlm⟩, rfl⟩, ?_⟩
      conv => whnf
      refine ⟨_, _, q1, m1, (R k).set k [.int .i64 (N k), .int .i64 (w64 (N k + 1)), .int .i64 (w64 (w64 (N k + 1) + 1)), .int .i64 (w64 (w64 (w64 (N k + 1) + 1) + 1)), .sl 1 q1, boolsP l[k].Bits], ⟨⟨⟨rfl, at1 hlm rfl⟩, M1⟩, st1 hlm rfl⟩, ?_⟩
      conv => whnf
      refine ⟨k, ⟨⟨rfl, ln1 hlm⟩, rfl⟩, ?_⟩
      conv => whnf
      refine ⟨_, _, q2, m2, (R k).set k [.int .i64 (N k), .int .i64 (w64 (N k + 1)), .int .i64 (w64 (w64 (N k + 1) + 1)), .int .i64 (w64 (w64 (w64 (N k + 1) + 1) + 1)), .sl 1 q1, .sl 1 q2], ⟨⟨⟨rfl, at1 hlm rfl⟩, M2⟩, st1 hlm rfl⟩, ?_⟩
      conv => whnf
      exact ⟨k + 1, ⟨hlt, by omega⟩, le_mkD rfl ⟨⟨rfl, rfl⟩, ⟨i64_eq (hfin.trans hNs.symm), rfl⟩, ⟨ctr (by omega), rfl⟩, trivial⟩ ⟨⟨row_eq hset, rfl⟩, trivial⟩ rfl rfl⟩
    · have hk2 : k = l.length := by simp [hRl k hk] at h; omega
      subst hk2
      conv => whnf
      exact ⟨rfl, ⟨_, _, rfl, rfl⟩, trivial⟩
  · rw [← hN1]
    refine pureC_of (Γ := lookT tbl) (il := ilist) tg dr Try.func58 rfl (by kernel_rfl) rfl (Nat.le_of_ble_eq_true rfl) ?_
    conv => whnf
    refine loop_i (fun k : Nat => ⟨envL [(0, .c (.pv (.sl 6 ys))), (1, .c (.pv (.int .i64 (N k)))), (5, .c (.pv (.int .i64 k)))], resL [], 0, 67⟩) (fun k => k ≤ l.length) (fun k => l.length - k) 0 (Nat.zero_le _) (le_mk [] rfl ⟨⟨rfl, rfl⟩, ⟨i64_eq hN0.symm, rfl⟩, ⟨rfl, rfl⟩, trivial⟩ trivial rfl) ?_
    intro k hk
    conv => whnf
    refine br_i (fun h => ?_) (fun h => ?_)
    · have hlt : k < l.length := by simpa [hyl] using h
      obtain ⟨hNs, hn0, hn1, el, ⟨q1, m1, q2, m2, rfl, M1, H1, P1, M2, H2, P2, hfin⟩, hy, hget, hset⟩ := hst k hlt
      have hix : (0 ≤ (k : Int) ∧ ys[(k : Int).toNat]? = some [.int .i64 (N k), .int .i64 (w64 (N k + 1)), .int .i64 (w64 (w64 (N k + 1) + 1)), .int .i64 (w64 (w64 (w64 (N k + 1) + 1) + 1)), .sl 1 q1, .sl 1 q2]) ∧ 6 = 6 := ⟨⟨by omega, hy⟩, rfl⟩
      conv => whnf
      refine ⟨_, hix, ?_⟩
      conv => whnf
      refine br_i (fun h => absurd h (by simp)) (fun h => ?_)
      conv => whnf
      refine ⟨_, hix, ?_⟩
      conv => whnf
      refine br_i (fun h => absurd h (by simp)) (fun h => ?_)
      conv => whnf
      refine ⟨_, hix, ?_⟩
      conv => whnf
      refine br_i (fun h => absurd h (by simp)) (fun h => ?_)
      conv => whnf
      refine ⟨_, hix, ?_⟩
      conv => whnf
      refine br_i (fun h => absurd h (by simp)) (fun h => ?_)
      conv => whnf
      refine ⟨_, hix, ?_⟩
      conv => whnf
      refine call_i H1 ?_
      conv => whnf
      refine br_i (fun h => absurd (dlt h) (by omega)) (fun h => ?_)
      conv => whnf
      refine ⟨_, hix, ?_⟩
      conv => whnf
      refine call_i H2 ?_
      conv => whnf
      refine br_i (fun h => absurd (dlt h) (by omega)) (fun h => ?_)
      conv => whnf
      exact ⟨k + 1, ⟨hlt, by omega⟩, le_mk [] rfl ⟨⟨rfl, rfl⟩, ⟨i64_eq (hfin.trans hNs.symm), rfl⟩, ⟨ctr (by omega), rfl⟩, trivial⟩ trivial rfl⟩
    · have hk2 : k = l.length := by simp [hyl] at h; omega
      subst hk2
      conv => whnf
      exact leaf_i rfl rfl rfl
def XPend.mc (x : XPend) : Nat := 8 + x.Req.Words.length + x.Req.Bits.length + sumF XPart.mc x.Parts + x.Has.length + sumF XResp.mc x.Told
set_option maxHeartbeats 4000000 in
theorem mkPendS (l : List XPend) : MkS Try.prog 38 43 13 (l.map XPend.ps) (sumF XPend.mc l) := by
  intro n h0 h1
  obtain ⟨N, ys, R, hlen, hN0, hN1, hyl, hR0, hR1, hRl, hst⟩ := chain XPend.ps XPend.mc (fun x n el => ∃ (q1 : List (List PV)) (m1 : Int) (q2 : List (List PV)) (m2 : Int) (q3 : List (List PV)) (m3 : Int) (q4 : List (List PV)) (m4 : Int) (q5 : List (List PV)) (m5 : Int), el = [.int .i64 (n), .int .i64 (w64 (n + 1)), .int .i64 (w64 (w64 (n + 1) + 1)), .int .i64 (w64 (w64 (w64 (n + 1) + 1) + 1)), .int .i64 (w64 (w64 (w64 (w64 (n + 1) + 1) + 1) + 1)), .int .i64 (w64 (w64 (w64 (w64 (w64 (n + 1) + 1) + 1) + 1) + 1)), .int .i64 (w64 (w64 (w64 (w64 (w64 (w64 (n + 1) + 1) + 1) + 1) + 1) + 1)), .sl 1 q1, .sl 1 q2, .int .i64 (m2), .sl 8 q3, .sl 1 q4, .sl 6 q5] ∧ MarkC Try.prog 40 (.one (.sl 1 (x.Req.Words.map intEl))) (w64 (w64 (w64 (w64 (w64 (w64 (w64 (n + 1) + 1) + 1) + 1) + 1) + 1) + 1)) (.one (.sl 1 q1)) m1 ∧ PureC Try.prog 45 [.one (.sl 1 q1), i64v (w64 (w64 (w64 (w64 (w64 (w64 (w64 (n + 1) + 1) + 1) + 1) + 1) + 1) + 1))] [i64v m1] ∧ 0 ≤ m1 ∧ MarkC Try.prog 41 (.one (.sl 1 (x.Req.Bits.map boolEl))) (m1) (.one (.sl 1 q2)) m2 ∧ PureC Try.prog 46 [.one (.sl 1 q2), i64v (m1)] [i64v m2] ∧ 0 ≤ m2 ∧ MarkC Try.prog 55 (.one (.sl 8 (x.Parts.map XPart.ps))) (w64 (m2 + 1)) (.one (.sl 8 q3)) m3 ∧ PureC Try.prog 57 [.one (.sl 8 q3), i64v (w64 (m2 + 1))] [i64v m3] ∧ 0 ≤ m3 ∧ MarkC Try.prog 41 (.one (.sl 1 (x.Has.map boolEl))) (m3) (.one (.sl 1 q4)) m4 ∧ PureC Try.prog 46 [.one (.sl 1 q4), i64v (m3)] [i64v m4] ∧ 0 ≤ m4 ∧ MarkC Try.prog 56 (.one (.sl 6 (x.Told.map XResp.ps))) (m4) (.one (.sl 6 q5)) m5 ∧ PureC Try.prog 58 [.one (.sl 6 q5), i64v (m4)] [i64v m5] ∧ 0 ≤ m5 ∧ m5 = n + (XPend.mc x : Nat)) l n h0 h1 (by intro x; simp [XPend.mc]; try omega) (by
      intro x hx n h0 h1
      unfold XPend.mc at h1 ⊢
      have h_0 : n = n + ((0 : Nat) : Int) := by omega
      have h_1 : w64 (n + 1) = n + ((0 + 1 : Nat) : Int) := by rw [h_0]; exact (wrap_ok (by omega) (by omega)).trans (by omega)
      have h_2 : w64 (w64 (n + 1) + 1) = n + ((0 + 1 + 1 : Nat) : Int) := by rw [h_1]; exact (wrap_ok (by omega) (by omega)).trans (by omega)
      have h_3 : w64 (w64 (w64 (n + 1) + 1) + 1) = n + ((0 + 1 + 1 + 1 : Nat) : Int) := by rw [h_2]; exact (wrap_ok (by omega) (by omega)).trans (by omega)
      have h_4 : w64 (w64 (w64 (w64 (n + 1) + 1) + 1) + 1) = n + ((0 + 1 + 1 + 1 + 1 : Nat) : Int) := by rw [h_3]; exact (wrap_ok (by omega) (by omega)).trans (by omega)
      have h_5 : w64 (w64 (w64 (w64 (w64 (n + 1) + 1) + 1) + 1) + 1) = n + ((0 + 1 + 1 + 1 + 1 + 1 : Nat) : Int) := by rw [h_4]; exact (wrap_ok (by omega) (by omega)).trans (by omega)
      have h_6 : w64 (w64 (w64 (w64 (w64 (w64 (n + 1) + 1) + 1) + 1) + 1) + 1) = n + ((0 + 1 + 1 + 1 + 1 + 1 + 1 : Nat) : Int) := by rw [h_5]; exact (wrap_ok (by omega) (by omega)).trans (by omega)
      have h_7 : w64 (w64 (w64 (w64 (w64 (w64 (w64 (n + 1) + 1) + 1) + 1) + 1) + 1) + 1) = n + ((0 + 1 + 1 + 1 + 1 + 1 + 1 + 1 : Nat) : Int) := by rw [h_6]; exact (wrap_ok (by omega) (by omega)).trans (by omega)
      obtain ⟨q1, M1, H1⟩ := mkIntS x.Req.Words (w64 (w64 (w64 (w64 (w64 (w64 (w64 (n + 1) + 1) + 1) + 1) + 1) + 1) + 1)) (by rw [h_7]; omega) (by rw [h_7]; omega)
      generalize hc1 : (w64 (w64 (w64 (w64 (w64 (w64 (w64 (n + 1) + 1) + 1) + 1) + 1) + 1) + 1)) + _ = c1 at M1 H1
      have h_8 : c1 = n + ((0 + 1 + 1 + 1 + 1 + 1 + 1 + 1 + x.Req.Words.length : Nat) : Int) := by rw [← hc1, h_7]; push_cast; omega
      obtain ⟨q2, M2, H2⟩ := mkBoolS x.Req.Bits (c1) (by rw [h_8]; omega) (by rw [h_8]; omega)
      generalize hc2 : (c1) + _ = c2 at M2 H2
      have h_9 : c2 = n + ((0 + 1 + 1 + 1 + 1 + 1 + 1 + 1 + x.Req.Words.length + x.Req.Bits.length : Nat) : Int) := by rw [← hc2, h_8]; push_cast; omega
      have h_10 : w64 (c2 + 1) = n + ((0 + 1 + 1 + 1 + 1 + 1 + 1 + 1 + x.Req.Words.length + x.Req.Bits.length + 1 : Nat) : Int) := by rw [h_9]; exact (wrap_ok (by omega) (by omega)).trans (by omega)
      obtain ⟨q3, M3, H3⟩ := mkPartS x.Parts (w64 (c2 + 1)) (by rw [h_10]; omega) (by rw [h_10]; omega)
      generalize hc3 : (w64 (c2 + 1)) + _ = c3 at M3 H3
      have h_11 : c3 = n + ((0 + 1 + 1 + 1 + 1 + 1 + 1 + 1 + x.Req.Words.length + x.Req.Bits.length + 1 + sumF XPart.mc x.Parts : Nat) : Int) := by rw [← hc3, h_10]; push_cast; omega
      obtain ⟨q4, M4, H4⟩ := mkBoolS x.Has (c3) (by rw [h_11]; omega) (by rw [h_11]; omega)
      generalize hc4 : (c3) + _ = c4 at M4 H4
      have h_12 : c4 = n + ((0 + 1 + 1 + 1 + 1 + 1 + 1 + 1 + x.Req.Words.length + x.Req.Bits.length + 1 + sumF XPart.mc x.Parts + x.Has.length : Nat) : Int) := by rw [← hc4, h_11]; push_cast; omega
      obtain ⟨q5, M5, H5⟩ := mkRespS x.Told (c4) (by rw [h_12]; omega) (by rw [h_12]; omega)
      generalize hc5 : (c4) + _ = c5 at M5 H5
      have h_13 : c5 = n + ((0 + 1 + 1 + 1 + 1 + 1 + 1 + 1 + x.Req.Words.length + x.Req.Bits.length + 1 + sumF XPart.mc x.Parts + x.Has.length + sumF XResp.mc x.Told : Nat) : Int) := by rw [← hc5, h_12]; push_cast; omega
      exact ⟨_, q1, c1, q2, c2, q3, c3, q4, c4, q5, c5, rfl, M1, H1, by omega, M2, H2, by omega, M3, H3, by omega, M4, H4, by omega, M5, H5, by omega, by rw [h_13]; try omega⟩)
  refine ⟨ys, ?_, ?_⟩
  · rw [← hN1, ← hR1, ← hR0]
    refine markC_of (Γ := lookT tbl) (il := ilist) tg drD Try.func38 rfl (by kernel_rfl) rfl (Nat.le_of_ble_eq_true rfl) (Nat.le_of_ble_eq_true rfl) rfl ?_
    conv => whnf
    refine loop_i (fun k : Nat => ⟨envL [(0, .c (.row 0)), (1, .c (.pv (.int .i64 (N k)))), (5, .c (.pv (.int .i64 k)))], resL [(0, .row true 13 (R k))], 64, 110⟩) (fun k => k ≤ l.length) (fun k => l.length - k) 0 (Nat.zero_le _) (le_mkD rfl ⟨⟨rfl, rfl⟩, ⟨i64_eq hN0.symm, rfl⟩, ⟨rfl, rfl⟩, trivial⟩ ⟨⟨rfl, rfl⟩, trivial⟩ rfl rfl) ?_
    intro k hk
    conv => whnf
    refine br_i (fun h => ?_) (fun h => ?_)
    · have hlt : k < l.length := by simpa [hRl k hk] using h
      obtain ⟨hNs, hn0, hn1, el, ⟨q1, m1, q2, m2, q3, m3, q4, m4, q5, m5, rfl, M1, H1, P1, M2, H2, P2, M3, H3, P3, M4, H4, P4, M5, H5, P5, hfin⟩, hy, hget, hset⟩ := hst k hlt
      have hlm : k < (R k).length := by rw [hRl k hk]; exact hlt
      conv => whnf
      refine ⟨k, ⟨⟨rfl, hlm⟩, rfl⟩, ?_⟩
      conv => whnf
      refine ⟨(R k).set k [.int .i64 (N k), .int .i64 l[k].Source, .int .i64 l[k].Tag, .int .i64 l[k].Unit, .int .i64 l[k].Req.Kind, .int .i64 l[k].Req.At, .int .i64 l[k].Req.N, intsP l[k].Req.Words, boolsP l[k].Req.Bits, .int .i64 l[k].Req.WAt, XPart.sP l[k].Parts, boolsP l[k].Has, XResp.sP l[k].Told], ⟨rfl, hlm, by decide, st0 hget rfl⟩, ?_⟩
      conv => whnf
      refine ⟨k, ⟨⟨rfl, ln1 hlm⟩, rfl⟩, ?_⟩
      conv => whnf
      refine ⟨(R k).set k [.int .i64 (N k), .int .i64 (w64 (N k + 1)), .int .i64 l[k].Tag, .int .i64 l[k].Unit, .int .i64 l[k].Req.Kind, .int .i64 l[k].Req.At, .int .i64 l[k].Req.N, intsP l[k].Req.Words, boolsP l[k].Req.Bits, .int .i64 l[k].Req.WAt, XPart.sP l[k].Parts, boolsP l[k].Has, XResp.sP l[k].Told], ⟨rfl, ln1 hlm, by decide, st1 hlm rfl⟩, ?_⟩
      conv => whnf
      refine ⟨k, ⟨⟨rfl, ln1 hlm⟩, rfl⟩, ?_⟩
      conv => whnf
      refine ⟨(R k).set k [.int .i64 (N k), .int .i64 (w64 (N k + 1)), .int .i64 (w64 (w64 (N k + 1) + 1)), .int .i64 l[k].Unit, .int .i64 l[k].Req.Kind, .int .i64 l[k].Req.At, .int .i64 l[k].Req.N, intsP l[k].Req.Words, boolsP l[k].Req.Bits, .int .i64 l[k].Req.WAt, XPart.sP l[k].Parts, boolsP l[k].Has, XResp.sP l[k].Told], ⟨rfl, ln1 hlm, by decide, st1 hlm rfl⟩, ?_⟩
      conv => whnf
      refine ⟨k, ⟨⟨rfl, ln1 hlm⟩, rfl⟩, ?_⟩
      conv => whnf
      refine ⟨(R k).set k [.int .i64 (N k), .int .i64 (w64 (N k + 1)), .int .i64 (w64 (w64 (N k + 1) + 1)), .int .i64 (w64 (w64 (w64 (N k + 1) + 1) + 1)), .int .i64 l[k].Req.Kind, .int .i64 l[k].Req.At, .int .i64 l[k].Req.N, intsP l[k].Req.Words, boolsP l[k].Req.Bits, .int .i64 l[k].Req.WAt, XPart.sP l[k].Parts, boolsP l[k].Has, XResp.sP l[k].Told], ⟨rfl, ln1 hlm, by decide, st1 hlm rfl⟩, ?_⟩
      conv => whnf
      refine ⟨k, ⟨⟨rfl, ln1 hlm⟩, rfl⟩, ?_⟩
      conv => whnf
      refine ⟨(R k).set k [.int .i64 (N k), .int .i64 (w64 (N k + 1)), .int .i64 (w64 (w64 (N k + 1) + 1)), .int .i64 (w64 (w64 (w64 (N k + 1) + 1) + 1)), .int .i64 (w64 (w64 (w64 (w64 (N k + 1) + 1) + 1) + 1)), .int .i64 l[k].Req.At, .int .i64 l[k].Req.N, intsP l[k].Req.Words, boolsP l[k].Req.Bits, .int .i64 l[k].Req.WAt, XPart.sP l[k].Parts, boolsP l[k].Has, XResp.sP l[k].Told], ⟨rfl, ln1 hlm, by decide, st1 hlm rfl⟩, ?_⟩
      conv => whnf
      refine ⟨k, ⟨⟨rfl, ln1 hlm⟩, rfl⟩, ?_⟩
      conv => whnf
      refine ⟨(R k).set k [.int .i64 (N k), .int .i64 (w64 (N k + 1)), .int .i64 (w64 (w64 (N k + 1) + 1)), .int .i64 (w64 (w64 (w64 (N k + 1) + 1) + 1)), .int .i64 (w64 (w64 (w64 (w64 (N k + 1) + 1) + 1) + 1)), .int .i64 (w64 (w64 (w64 (w64 (w64 (N k + 1) + 1) + 1) + 1) + 1)), .int .i64 l[k].Req.N, intsP l[k].Req.Words, boolsP l[k].Req.Bits, .int .i64 l[k].Req.WAt, XPart.sP l[k].Parts, boolsP l[k].Has, XResp.sP l[k].Told], ⟨rfl, ln1 hlm, by decide, st1 hlm rfl⟩, ?_⟩
      conv => whnf
      refine ⟨k, ⟨⟨rfl, ln1 hlm⟩, rfl⟩, ?_⟩
      conv => whnf
      refine ⟨(R k).set k [.int .i64 (N k), .int .i64 (w64 (N k + 1)), .int .i64 (w64 (w64 (N k + 1) + 1)), .int .i64 (w64 (w64 (w64 (N k + 1) + 1) + 1)), .int .i64 (w64 (w64 (w64 (w64 (N k + 1) + 1) + 1) + 1)), .int .i64 (w64 (w64 (w64 (w64 (w64 (N k + 1) + 1) + 1) + 1) + 1)), .int .i64 (w64 (w64 (w64 (w64 (w64 (w64 (N k + 1) + 1) + 1) + 1) + 1) + 1)), intsP l[k].Req.Words, boolsP l[k].Req.Bits, .int .i64 l[k].Req.WAt, XPart.sP l[k].Parts, boolsP l[k].Has, XResp.sP l[k].Told], ⟨rfl, ln1 hlm, by decide, st1 hlm rfl⟩, ?_⟩
      conv => whnf
      refine ⟨k, ⟨⟨rfl, ln1 hlm⟩, rfl⟩, ?_⟩
      conv => whnf
      refine ⟨_, _, q1, m1, (R k).set k [.int .i64 (N k), .int .i64 (w64 (N k + 1)), .int .i64 (w64 (w64 (N k + 1) + 1)), .int .i64 (w64 (w64 (w64 (N k + 1) + 1) + 1)), .int .i64 (w64 (w64 (w64 (w64 (N k + 1) + 1) + 1) + 1)), .int .i64 (w64 (w64 (w64 (w64 (w64 (N k + 1) + 1) + 1) + 1) + 1)), .int .i64 (w64 (w64 (w64 (w64 (w64 (w64 (N k + 1) + 1) + 1) + 1) + 1) + 1)), .sl 1 q1, boolsP l[k].Req.Bits, .int .i64 l[k].Req.WAt, XPart.sP l[k].Parts, boolsP l[k].Has, XResp.sP l[k].Told], ⟨⟨⟨rfl, at1 hlm rfl⟩, M1⟩, st1 hlm rfl⟩, ?_⟩
      conv => whnf
      refine ⟨k, ⟨⟨rfl, ln1 hlm⟩, rfl⟩, ?_⟩
      conv => whnf
      refine ⟨_, _, q2, m2, (R k).set k [.int .i64 (N k), .int .i64 (w64 (N k + 1)), .int .i64 (w64 (w64 (N k + 1) + 1)), .int .i64 (w64 (w64 (w64 (N k + 1) + 1) + 1)), .int .i64 (w64 (w64 (w64 (w64 (N k + 1) + 1) + 1) + 1)), .int .i64 (w64 (w64 (w64 (w64 (w64 (N k + 1) + 1) + 1) + 1) + 1)), .int .i64 (w64 (w64 (w64 (w64 (w64 (w64 (N k + 1) + 1) + 1) + 1) + 1) + 1)), .sl 1 q1, .sl 1 q2, .int .i64 l[k].Req.WAt, XPart.sP l[k].Parts, boolsP l[k].Has, XResp.sP l[k].Told], ⟨⟨⟨rfl, at1 hlm rfl⟩, M2⟩, st1 hlm rfl⟩, ?_⟩
      conv => whnf
      refine ⟨k, ⟨⟨rfl, ln1 hlm⟩, rfl⟩, ?_⟩
      conv => whnf
      refine ⟨(R k).set k [.int .i64 (N k), .int .i64 (w64 (N k + 1)), .int .i64 (w64 (w64 (N k + 1) + 1)), .int .i64 (w64 (w64 (w64 (N k + 1) + 1) + 1)), .int .i64 (w64 (w64 (w64 (w64 (N k + 1) + 1) + 1) + 1)), .int .i64 (w64 (w64 (w64 (w64 (w64 (N k + 1) + 1) + 1) + 1) + 1)), .int .i64 (w64 (w64 (w64 (w64 (w64 (w64 (N k + 1) + 1) + 1) + 1) + 1) + 1)), .sl 1 q1, .sl 1 q2, .int .i64 (m2), XPart.sP l[k].Parts, boolsP l[k].Has, XResp.sP l[k].Told], ⟨rfl, ln1 hlm, by decide, st1 hlm rfl⟩, ?_⟩
      conv => whnf
      refine ⟨k, ⟨⟨rfl, ln1 hlm⟩, rfl⟩, ?_⟩
      conv => whnf
      refine ⟨_, _, q3, m3, (R k).set k [.int .i64 (N k), .int .i64 (w64 (N k + 1)), .int .i64 (w64 (w64 (N k + 1) + 1)), .int .i64 (w64 (w64 (w64 (N k + 1) + 1) + 1)), .int .i64 (w64 (w64 (w64 (w64 (N k + 1) + 1) + 1) + 1)), .int .i64 (w64 (w64 (w64 (w64 (w64 (N k + 1) + 1) + 1) + 1) + 1)), .int .i64 (w64 (w64 (w64 (w64 (w64 (w64 (N k + 1) + 1) + 1) + 1) + 1) + 1)), .sl 1 q1, .sl 1 q2, .int .i64 (m2), .sl 8 q3, boolsP l[k].Has, XResp.sP l[k].Told], ⟨⟨⟨rfl, at1 hlm rfl⟩, M3⟩, st1 hlm rfl⟩, ?_⟩
      conv => whnf
      refine ⟨k, ⟨⟨rfl, ln1 hlm⟩, rfl⟩, ?_⟩
      conv => whnf
      refine ⟨_, _, q4, m4, (R k).set k [.int .i64 (N k), .int .i64 (w64 (N k + 1)), .int .i64 (w64 (w64 (N k + 1) + 1)), .int .i64 (w64 (w64 (w64 (N k + 1) + 1) + 1)), .int .i64 (w64 (w64 (w64 (w64 (N k + 1) + 1) + 1) + 1)), .int .i64 (w64 (w64 (w64 (w64 (w64 (N k + 1) + 1) + 1) + 1) + 1)), .int .i64 (w64 (w64 (w64 (w64 (w64 (w64 (N k + 1) + 1) + 1) + 1) + 1) + 1)), .sl 1 q1, .sl 1 q2, .int .i64 (m2), .sl 8 q3, .sl 1 q4, XResp.sP l[k].Told], ⟨⟨⟨rfl, at1 hlm rfl⟩, M4⟩, st1 hlm rfl⟩, ?_⟩
      conv => whnf
      refine ⟨k, ⟨⟨rfl, ln1 hlm⟩, rfl⟩, ?_⟩
      conv => whnf
      refine ⟨_, _, q5, m5, (R k).set k [.int .i64 (N k), .int .i64 (w64 (N k + 1)), .int .i64 (w64 (w64 (N k + 1) + 1)), .int .i64 (w64 (w64 (w64 (N k + 1) + 1) + 1)), .int .i64 (w64 (w64 (w64 (w64 (N k + 1) + 1) + 1) + 1)), .int .i64 (w64 (w64 (w64 (w64 (w64 (N k + 1) + 1) + 1) + 1) + 1)), .int .i64 (w64 (w64 (w64 (w64 (w64 (w64 (N k + 1) + 1) + 1) + 1) + 1) + 1)), .sl 1 q1, .sl 1 q2, .int .i64 (m2), .sl 8 q3, .sl 1 q4, .sl 6 q5], ⟨⟨⟨rfl, at1 hlm rfl⟩, M5⟩, st1 hlm rfl⟩, ?_⟩
      conv => whnf
      exact ⟨k + 1, ⟨hlt, by omega⟩, le_mkD rfl ⟨⟨rfl, rfl⟩, ⟨i64_eq (hfin.trans hNs.symm), rfl⟩, ⟨ctr (by omega), rfl⟩, trivial⟩ ⟨⟨row_eq hset, rfl⟩, trivial⟩ rfl rfl⟩
    · have hk2 : k = l.length := by simp [hRl k hk] at h; omega
      subst hk2
      conv => whnf
      exact ⟨rfl, ⟨_, _, rfl, rfl⟩, trivial⟩
  · rw [← hN1]
    refine pureC_of (Γ := lookT tbl) (il := ilist) tg dr Try.func43 rfl (by kernel_rfl) rfl (Nat.le_of_ble_eq_true rfl) ?_
    conv => whnf
    refine loop_i (fun k : Nat => ⟨envL [(0, .c (.pv (.sl 13 ys))), (1, .c (.pv (.int .i64 (N k)))), (5, .c (.pv (.int .i64 k)))], resL [], 0, 136⟩) (fun k => k ≤ l.length) (fun k => l.length - k) 0 (Nat.zero_le _) (le_mk [] rfl ⟨⟨rfl, rfl⟩, ⟨i64_eq hN0.symm, rfl⟩, ⟨rfl, rfl⟩, trivial⟩ trivial rfl) ?_
    intro k hk
    conv => whnf
    refine br_i (fun h => ?_) (fun h => ?_)
    · have hlt : k < l.length := by simpa [hyl] using h
      obtain ⟨hNs, hn0, hn1, el, ⟨q1, m1, q2, m2, q3, m3, q4, m4, q5, m5, rfl, M1, H1, P1, M2, H2, P2, M3, H3, P3, M4, H4, P4, M5, H5, P5, hfin⟩, hy, hget, hset⟩ := hst k hlt
      have hix : (0 ≤ (k : Int) ∧ ys[(k : Int).toNat]? = some [.int .i64 (N k), .int .i64 (w64 (N k + 1)), .int .i64 (w64 (w64 (N k + 1) + 1)), .int .i64 (w64 (w64 (w64 (N k + 1) + 1) + 1)), .int .i64 (w64 (w64 (w64 (w64 (N k + 1) + 1) + 1) + 1)), .int .i64 (w64 (w64 (w64 (w64 (w64 (N k + 1) + 1) + 1) + 1) + 1)), .int .i64 (w64 (w64 (w64 (w64 (w64 (w64 (N k + 1) + 1) + 1) + 1) + 1) + 1)), .sl 1 q1, .sl 1 q2, .int .i64 (m2), .sl 8 q3, .sl 1 q4, .sl 6 q5]) ∧ 13 = 13 := ⟨⟨by omega, hy⟩, rfl⟩
      conv => whnf
      refine ⟨_, hix, ?_⟩
      conv => whnf
      refine br_i (fun h => absurd h (by simp)) (fun h => ?_)
      conv => whnf
      refine ⟨_, hix, ?_⟩
      conv => whnf
      refine br_i (fun h => absurd h (by simp)) (fun h => ?_)
      conv => whnf
      refine ⟨_, hix, ?_⟩
      conv => whnf
      refine br_i (fun h => absurd h (by simp)) (fun h => ?_)
      conv => whnf
      refine ⟨_, hix, ?_⟩
      conv => whnf
      refine br_i (fun h => absurd h (by simp)) (fun h => ?_)
      conv => whnf
      refine ⟨_, hix, ?_⟩
      conv => whnf
      refine br_i (fun h => absurd h (by simp)) (fun h => ?_)
      conv => whnf
      refine ⟨_, hix, ?_⟩
      conv => whnf
      refine br_i (fun h => absurd h (by simp)) (fun h => ?_)
      conv => whnf
      refine ⟨_, hix, ?_⟩
      conv => whnf
      refine br_i (fun h => absurd h (by simp)) (fun h => ?_)
      conv => whnf
      refine ⟨_, hix, ?_⟩
      conv => whnf
      refine call_i H1 ?_
      conv => whnf
      refine br_i (fun h => absurd (dlt h) (by omega)) (fun h => ?_)
      conv => whnf
      refine ⟨_, hix, ?_⟩
      conv => whnf
      refine call_i H2 ?_
      conv => whnf
      refine br_i (fun h => absurd (dlt h) (by omega)) (fun h => ?_)
      conv => whnf
      refine ⟨_, hix, ?_⟩
      conv => whnf
      refine br_i (fun h => absurd h (by simp)) (fun h => ?_)
      conv => whnf
      refine ⟨_, hix, ?_⟩
      conv => whnf
      refine call_i H3 ?_
      conv => whnf
      refine br_i (fun h => absurd (dlt h) (by omega)) (fun h => ?_)
      conv => whnf
      refine ⟨_, hix, ?_⟩
      conv => whnf
      refine call_i H4 ?_
      conv => whnf
      refine br_i (fun h => absurd (dlt h) (by omega)) (fun h => ?_)
      conv => whnf
      refine ⟨_, hix, ?_⟩
      conv => whnf
      refine call_i H5 ?_
      conv => whnf
      refine br_i (fun h => absurd (dlt h) (by omega)) (fun h => ?_)
      conv => whnf
      exact ⟨k + 1, ⟨hlt, by omega⟩, le_mk [] rfl ⟨⟨rfl, rfl⟩, ⟨i64_eq (hfin.trans hNs.symm), rfl⟩, ⟨ctr (by omega), rfl⟩, trivial⟩ trivial rfl⟩
    · have hk2 : k = l.length := by simp [hyl] at h; omega
      subst hk2
      conv => whnf
      exact leaf_i rfl rfl rfl
def XTable.sc (x : XTable) : Nat := 0 + sumF XPend.mc x.List_
theorem mkTable (x : XTable) (n : Int) (h0 : 0 ≤ n) (h1 : n + x.sc ≤ 4611686018427387904) : ∃ (q1 : List (List PV)), MarkC Try.prog 24 x.v n (.agg [.int .i64 x.Next, .sl 13 q1]) (n + x.sc) ∧ PureC Try.prog 27 [.agg [.int .i64 x.Next, .sl 13 q1], i64v n] [i64v (n + x.sc)] := by
  unfold XTable.sc at *
  have h_0 : n = n + ((0 : Nat) : Int) := by omega
  obtain ⟨q1, M1, H1⟩ := mkPendS x.List_ (n) (by rw [h_0]; omega) (by rw [h_0]; omega)
  generalize hc1 : (n) + ((_ : Nat) : Int) = c1 at M1 H1
  have h_1 : c1 = n + ((0 + sumF XPend.mc x.List_ : Nat) : Int) := by rw [← hc1, h_0]; push_cast; omega
  have hfin : c1 = n + ((0 + sumF XPend.mc x.List_ : Nat) : Int) := by rw [h_1]; try omega
  refine ⟨q1, ?_, ?_⟩
  · refine markC_of (Γ := lookT tbl) (il := ilist) tg drD Try.func24 rfl (by kernel_rfl) rfl (Nat.le_of_ble_eq_true rfl) (Nat.le_of_ble_eq_true rfl) rfl ?_
    conv => whnf
    refine mark_i M1 rfl ?_
    conv => whnf
    exact ⟨i64s_eq hfin, rfl, ⟨_, _, rfl, rfl⟩, trivial⟩
  · refine pureC_of (Γ := lookT tbl) (il := ilist) tg dr Try.func27 rfl (by kernel_rfl) rfl (Nat.le_of_ble_eq_true rfl) ?_
    conv => whnf
    refine call_i H1 ?_
    conv => whnf
    refine br_i (fun h => absurd (dlt h) (by omega)) (fun h => ?_)
    conv => whnf
    exact leaf_i rfl rfl (i64l_eq hfin)
def XCall.mc (x : XCall) : Nat := 7 + x.Req.Words.length + x.Req.Bits.length
theorem mkCallS (l : List XCall) : MkS Try.prog 39 44 9 (l.map XCall.ps) (sumF XCall.mc l) := by
  intro n h0 h1
  obtain ⟨N, ys, R, hlen, hN0, hN1, hyl, hR0, hR1, hRl, hst⟩ := chain XCall.ps XCall.mc (fun x n el => ∃ (q1 : List (List PV)) (m1 : Int) (q2 : List (List PV)) (m2 : Int), el = [.int .i64 (n), .int .i64 (w64 (n + 1)), .int .i64 (w64 (w64 (n + 1) + 1)), .int .i64 (w64 (w64 (w64 (n + 1) + 1) + 1)), .int .i64 (w64 (w64 (w64 (w64 (n + 1) + 1) + 1) + 1)), .int .i64 (w64 (w64 (w64 (w64 (w64 (n + 1) + 1) + 1) + 1) + 1)), .sl 1 q1, .sl 1 q2, .int .i64 (m2)] ∧ MarkC Try.prog 40 (.one (.sl 1 (x.Req.Words.map intEl))) (w64 (w64 (w64 (w64 (w64 (w64 (n + 1) + 1) + 1) + 1) + 1) + 1)) (.one (.sl 1 q1)) m1 ∧ PureC Try.prog 45 [.one (.sl 1 q1), i64v (w64 (w64 (w64 (w64 (w64 (w64 (n + 1) + 1) + 1) + 1) + 1) + 1))] [i64v m1] ∧ 0 ≤ m1 ∧ MarkC Try.prog 41 (.one (.sl 1 (x.Req.Bits.map boolEl))) (m1) (.one (.sl 1 q2)) m2 ∧ PureC Try.prog 46 [.one (.sl 1 q2), i64v (m1)] [i64v m2] ∧ 0 ≤ m2 ∧ w64 (m2 + 1) = n + (XCall.mc x : Nat)) l n h0 h1 (by intro x; simp [XCall.mc]; try omega) (by
      intro x hx n h0 h1
      unfold XCall.mc at h1 ⊢
      have h_0 : n = n + ((0 : Nat) : Int) := by omega
      have h_1 : w64 (n + 1) = n + ((0 + 1 : Nat) : Int) := by rw [h_0]; exact (wrap_ok (by omega) (by omega)).trans (by omega)
      have h_2 : w64 (w64 (n + 1) + 1) = n + ((0 + 1 + 1 : Nat) : Int) := by rw [h_1]; exact (wrap_ok (by omega) (by omega)).trans (by omega)
      have h_3 : w64 (w64 (w64 (n + 1) + 1) + 1) = n + ((0 + 1 + 1 + 1 : Nat) : Int) := by rw [h_2]; exact (wrap_ok (by omega) (by omega)).trans (by omega)
      have h_4 : w64 (w64 (w64 (w64 (n + 1) + 1) + 1) + 1) = n + ((0 + 1 + 1 + 1 + 1 : Nat) : Int) := by rw [h_3]; exact (wrap_ok (by omega) (by omega)).trans (by omega)
      have h_5 : w64 (w64 (w64 (w64 (w64 (n + 1) + 1) + 1) + 1) + 1) = n + ((0 + 1 + 1 + 1 + 1 + 1 : Nat) : Int) := by rw [h_4]; exact (wrap_ok (by omega) (by omega)).trans (by omega)
      have h_6 : w64 (w64 (w64 (w64 (w64 (w64 (n + 1) + 1) + 1) + 1) + 1) + 1) = n + ((0 + 1 + 1 + 1 + 1 + 1 + 1 : Nat) : Int) := by rw [h_5]; exact (wrap_ok (by omega) (by omega)).trans (by omega)
      obtain ⟨q1, M1, H1⟩ := mkIntS x.Req.Words (w64 (w64 (w64 (w64 (w64 (w64 (n + 1) + 1) + 1) + 1) + 1) + 1)) (by rw [h_6]; omega) (by rw [h_6]; omega)
      generalize hc1 : (w64 (w64 (w64 (w64 (w64 (w64 (n + 1) + 1) + 1) + 1) + 1) + 1)) + _ = c1 at M1 H1
      have h_7 : c1 = n + ((0 + 1 + 1 + 1 + 1 + 1 + 1 + x.Req.Words.length : Nat) : Int) := by rw [← hc1, h_6]; push_cast; omega
      obtain ⟨q2, M2, H2⟩ := mkBoolS x.Req.Bits (c1) (by rw [h_7]; omega) (by rw [h_7]; omega)
      generalize hc2 : (c1) + _ = c2 at M2 H2
      have h_8 : c2 = n + ((0 + 1 + 1 + 1 + 1 + 1 + 1 + x.Req.Words.length + x.Req.Bits.length : Nat) : Int) := by rw [← hc2, h_7]; push_cast; omega
      have h_9 : w64 (c2 + 1) = n + ((0 + 1 + 1 + 1 + 1 + 1 + 1 + x.Req.Words.length + x.Req.Bits.length + 1 : Nat) : Int) := by rw [h_8]; exact (wrap_ok (by omega) (by omega)).trans (by omega)
      exact ⟨_, q1, c1, q2, c2, rfl, M1, H1, by omega, M2, H2, by omega, by rw [h_9]; try omega⟩)
  refine ⟨ys, ?_, ?_⟩
  · rw [← hN1, ← hR1, ← hR0]
    refine markC_of (Γ := lookT tbl) (il := ilist) tg drD Try.func39 rfl (by kernel_rfl) rfl (Nat.le_of_ble_eq_true rfl) (Nat.le_of_ble_eq_true rfl) rfl ?_
    conv => whnf
    refine loop_i (fun k : Nat => ⟨envL [(0, .c (.row 0)), (1, .c (.pv (.int .i64 (N k)))), (5, .c (.pv (.int .i64 k)))], resL [(0, .row true 9 (R k))], 64, 82⟩) (fun k => k ≤ l.length) (fun k => l.length - k) 0 (Nat.zero_le _) (le_mkD rfl ⟨⟨rfl, rfl⟩, ⟨i64_eq hN0.symm, rfl⟩, ⟨rfl, rfl⟩, trivial⟩ ⟨⟨rfl, rfl⟩, trivial⟩ rfl rfl) ?_
    intro k hk
    conv => whnf
    refine br_i (fun h => ?_) (fun h => ?_)
    · have hlt : k < l.length := by simpa [hRl k hk] using h
      obtain ⟨hNs, hn0, hn1, el, ⟨q1, m1, q2, m2, rfl, M1, H1, P1, M2, H2, P2, hfin⟩, hy, hget, hset⟩ := hst k hlt
      have hlm : k < (R k).length := by rw [hRl k hk]; exact hlt
      conv => whnf
      refine ⟨k, ⟨⟨rfl, hlm⟩, rfl⟩, ?_⟩
      conv => whnf
      refine ⟨(R k).set k [.int .i64 (N k), .int .i64 l[k].Part, .int .i64 l[k].Unit, .int .i64 l[k].Req.Kind, .int .i64 l[k].Req.At, .int .i64 l[k].Req.N, intsP l[k].Req.Words, boolsP l[k].Req.Bits, .int .i64 l[k].Req.WAt], ⟨rfl, hlm, by decide, st0 hget rfl⟩, ?_⟩
      conv => whnf
      refine ⟨k, ⟨⟨rfl, ln1 hlm⟩, rfl⟩, ?_⟩
      conv => whnf
      refine ⟨(R k).set k [.int .i64 (N k), .int .i64 (w64 (N k + 1)), .int .i64 l[k].Unit, .int .i64 l[k].Req.Kind, .int .i64 l[k].Req.At, .int .i64 l[k].Req.N, intsP l[k].Req.Words, boolsP l[k].Req.Bits, .int .i64 l[k].Req.WAt], ⟨rfl, ln1 hlm, by decide, st1 hlm rfl⟩, ?_⟩
      conv => whnf
      refine ⟨k, ⟨⟨rfl, ln1 hlm⟩, rfl⟩, ?_⟩
      conv => whnf
      refine ⟨(R k).set k [.int .i64 (N k), .int .i64 (w64 (N k + 1)), .int .i64 (w64 (w64 (N k + 1) + 1)), .int .i64 l[k].Req.Kind, .int .i64 l[k].Req.At, .int .i64 l[k].Req.N, intsP l[k].Req.Words, boolsP l[k].Req.Bits, .int .i64 l[k].Req.WAt], ⟨rfl, ln1 hlm, by decide, st1 hlm rfl⟩, ?_⟩
      conv => whnf
      refine ⟨k, ⟨⟨rfl, ln1 hlm⟩, rfl⟩, ?_⟩
      conv => whnf
      refine ⟨(R k).set k [.int .i64 (N k), .int .i64 (w64 (N k + 1)), .int .i64 (w64 (w64 (N k + 1) + 1)), .int .i64 (w64 (w64 (w64 (N k + 1) + 1) + 1)), .int .i64 l[k].Req.At, .int .i64 l[k].Req.N, intsP l[k].Req.Words, boolsP l[k].Req.Bits, .int .i64 l[k].Req.WAt], ⟨rfl, ln1 hlm, by decide, st1 hlm rfl⟩, ?_⟩
      conv => whnf
      refine ⟨k, ⟨⟨rfl, ln1 hlm⟩, rfl⟩, ?_⟩
      conv => whnf
      refine ⟨(R k).set k [.int .i64 (N k), .int .i64 (w64 (N k + 1)), .int .i64 (w64 (w64 (N k + 1) + 1)), .int .i64 (w64 (w64 (w64 (N k + 1) + 1) + 1)), .int .i64 (w64 (w64 (w64 (w64 (N k + 1) + 1) + 1) + 1)), .int .i64 l[k].Req.N, intsP l[k].Req.Words, boolsP l[k].Req.Bits, .int .i64 l[k].Req.WAt], ⟨rfl, ln1 hlm, by decide, st1 hlm rfl⟩, ?_⟩
      conv => whnf
      refine ⟨k, ⟨⟨rfl, ln1 hlm⟩, rfl⟩, ?_⟩
      conv => whnf
      refine ⟨(R k).set k [.int .i64 (N k), .int .i64 (w64 (N k + 1)), .int .i64 (w64 (w64 (N k + 1) + 1)), .int .i64 (w64 (w64 (w64 (N k + 1) + 1) + 1)), .int .i64 (w64 (w64 (w64 (w64 (N k + 1) + 1) + 1) + 1)), .int .i64 (w64 (w64 (w64 (w64 (w64 (N k + 1) + 1) + 1) + 1) + 1)), intsP l[k].Req.Words, boolsP l[k].Req.Bits, .int .i64 l[k].Req.WAt], ⟨rfl, ln1 hlm, by decide, st1 hlm rfl⟩, ?_⟩
      conv => whnf
      refine ⟨k, ⟨⟨rfl, ln1 hlm⟩, rfl⟩, ?_⟩
      conv => whnf
      refine ⟨_, _, q1, m1, (R k).set k [.int .i64 (N k), .int .i64 (w64 (N k + 1)), .int .i64 (w64 (w64 (N k + 1) + 1)), .int .i64 (w64 (w64 (w64 (N k + 1) + 1) + 1)), .int .i64 (w64 (w64 (w64 (w64 (N k + 1) + 1) + 1) + 1)), .int .i64 (w64 (w64 (w64 (w64 (w64 (N k + 1) + 1) + 1) + 1) + 1)), .sl 1 q1, boolsP l[k].Req.Bits, .int .i64 l[k].Req.WAt], ⟨⟨⟨rfl, at1 hlm rfl⟩, M1⟩, st1 hlm rfl⟩, ?_⟩
      conv => whnf
      refine ⟨k, ⟨⟨rfl, ln1 hlm⟩, rfl⟩, ?_⟩
      conv => whnf
      refine ⟨_, _, q2, m2, (R k).set k [.int .i64 (N k), .int .i64 (w64 (N k + 1)), .int .i64 (w64 (w64 (N k + 1) + 1)), .int .i64 (w64 (w64 (w64 (N k + 1) + 1) + 1)), .int .i64 (w64 (w64 (w64 (w64 (N k + 1) + 1) + 1) + 1)), .int .i64 (w64 (w64 (w64 (w64 (w64 (N k + 1) + 1) + 1) + 1) + 1)), .sl 1 q1, .sl 1 q2, .int .i64 l[k].Req.WAt], ⟨⟨⟨rfl, at1 hlm rfl⟩, M2⟩, st1 hlm rfl⟩, ?_⟩
      conv => whnf
      refine ⟨k, ⟨⟨rfl, ln1 hlm⟩, rfl⟩, ?_⟩
      conv => whnf
      refine ⟨(R k).set k [.int .i64 (N k), .int .i64 (w64 (N k + 1)), .int .i64 (w64 (w64 (N k + 1) + 1)), .int .i64 (w64 (w64 (w64 (N k + 1) + 1) + 1)), .int .i64 (w64 (w64 (w64 (w64 (N k + 1) + 1) + 1) + 1)), .int .i64 (w64 (w64 (w64 (w64 (w64 (N k + 1) + 1) + 1) + 1) + 1)), .sl 1 q1, .sl 1 q2, .int .i64 (m2)], ⟨rfl, ln1 hlm, by decide, st1 hlm rfl⟩, ?_⟩
      conv => whnf
      exact ⟨k + 1, ⟨hlt, by omega⟩, le_mkD rfl ⟨⟨rfl, rfl⟩, ⟨i64_eq (hfin.trans hNs.symm), rfl⟩, ⟨ctr (by omega), rfl⟩, trivial⟩ ⟨⟨row_eq hset, rfl⟩, trivial⟩ rfl rfl⟩
    · have hk2 : k = l.length := by simp [hRl k hk] at h; omega
      subst hk2
      conv => whnf
      exact ⟨rfl, ⟨_, _, rfl, rfl⟩, trivial⟩
  · rw [← hN1]
    refine pureC_of (Γ := lookT tbl) (il := ilist) tg dr Try.func44 rfl (by kernel_rfl) rfl (Nat.le_of_ble_eq_true rfl) ?_
    conv => whnf
    refine loop_i (fun k : Nat => ⟨envL [(0, .c (.pv (.sl 9 ys))), (1, .c (.pv (.int .i64 (N k)))), (5, .c (.pv (.int .i64 k)))], resL [], 0, 100⟩) (fun k => k ≤ l.length) (fun k => l.length - k) 0 (Nat.zero_le _) (le_mk [] rfl ⟨⟨rfl, rfl⟩, ⟨i64_eq hN0.symm, rfl⟩, ⟨rfl, rfl⟩, trivial⟩ trivial rfl) ?_
    intro k hk
    conv => whnf
    refine br_i (fun h => ?_) (fun h => ?_)
    · have hlt : k < l.length := by simpa [hyl] using h
      obtain ⟨hNs, hn0, hn1, el, ⟨q1, m1, q2, m2, rfl, M1, H1, P1, M2, H2, P2, hfin⟩, hy, hget, hset⟩ := hst k hlt
      have hix : (0 ≤ (k : Int) ∧ ys[(k : Int).toNat]? = some [.int .i64 (N k), .int .i64 (w64 (N k + 1)), .int .i64 (w64 (w64 (N k + 1) + 1)), .int .i64 (w64 (w64 (w64 (N k + 1) + 1) + 1)), .int .i64 (w64 (w64 (w64 (w64 (N k + 1) + 1) + 1) + 1)), .int .i64 (w64 (w64 (w64 (w64 (w64 (N k + 1) + 1) + 1) + 1) + 1)), .sl 1 q1, .sl 1 q2, .int .i64 (m2)]) ∧ 9 = 9 := ⟨⟨by omega, hy⟩, rfl⟩
      conv => whnf
      refine ⟨_, hix, ?_⟩
      conv => whnf
      refine br_i (fun h => absurd h (by simp)) (fun h => ?_)
      conv => whnf
      refine ⟨_, hix, ?_⟩
      conv => whnf
      refine br_i (fun h => absurd h (by simp)) (fun h => ?_)
      conv => whnf
      refine ⟨_, hix, ?_⟩
      conv => whnf
      refine br_i (fun h => absurd h (by simp)) (fun h => ?_)
      conv => whnf
      refine ⟨_, hix, ?_⟩
      conv => whnf
      refine br_i (fun h => absurd h (by simp)) (fun h => ?_)
      conv => whnf
      refine ⟨_, hix, ?_⟩
      conv => whnf
      refine br_i (fun h => absurd h (by simp)) (fun h => ?_)
      conv => whnf
      refine ⟨_, hix, ?_⟩
      conv => whnf
      refine br_i (fun h => absurd h (by simp)) (fun h => ?_)
      conv => whnf
      refine ⟨_, hix, ?_⟩
      conv => whnf
      refine call_i H1 ?_
      conv => whnf
      refine br_i (fun h => absurd (dlt h) (by omega)) (fun h => ?_)
      conv => whnf
      refine ⟨_, hix, ?_⟩
      conv => whnf
      refine call_i H2 ?_
      conv => whnf
      refine br_i (fun h => absurd (dlt h) (by omega)) (fun h => ?_)
      conv => whnf
      refine ⟨_, hix, ?_⟩
      conv => whnf
      refine br_i (fun h => absurd h (by simp)) (fun h => ?_)
      conv => whnf
      exact ⟨k + 1, ⟨hlt, by omega⟩, le_mk [] rfl ⟨⟨rfl, rfl⟩, ⟨i64_eq (hfin.trans hNs.symm), rfl⟩, ⟨ctr (by omega), rfl⟩, trivial⟩ trivial rfl⟩
    · have hk2 : k = l.length := by simp [hyl] at h; omega
      subst hk2
      conv => whnf
      exact leaf_i rfl rfl rfl
def XLine.mc (x : XLine) : Nat := 14 + sumF XCall.mc x.Queue + x.Call.Req.Words.length + x.Call.Req.Bits.length
set_option maxHeartbeats 4000000 in
theorem mkLineS (l : List XLine) : MkS Try.prog 25 28 17 (l.map XLine.ps) (sumF XLine.mc l) := by
  intro n h0 h1
  obtain ⟨N, ys, R, hlen, hN0, hN1, hyl, hR0, hR1, hRl, hst⟩ := chain XLine.ps XLine.mc (fun x n el => ∃ (q1 : List (List PV)) (m1 : Int) (q2 : List (List PV)) (m2 : Int) (q3 : List (List PV)) (m3 : Int), el = [.sl 9 q1, .bool (Int.tmod (m1) 3 == 0), .int .i64 (w64 (m1 + 1)), .int .i64 (w64 (w64 (m1 + 1) + 1)), .int .i64 (w64 (w64 (w64 (m1 + 1) + 1) + 1)), .int .i64 (w64 (w64 (w64 (w64 (m1 + 1) + 1) + 1) + 1)), .int .i64 (w64 (w64 (w64 (w64 (w64 (m1 + 1) + 1) + 1) + 1) + 1)), .int .i64 (w64 (w64 (w64 (w64 (w64 (w64 (m1 + 1) + 1) + 1) + 1) + 1) + 1)), .sl 1 q2, .sl 1 q3, .int .i64 (m3), .int .i64 (w64 (m3 + 1)), .int .i64 (w64 (w64 (m3 + 1) + 1)), .int .i64 (w64 (w64 (w64 (m3 + 1) + 1) + 1)), .int .i64 (w64 (w64 (w64 (w64 (m3 + 1) + 1) + 1) + 1)), .int .i64 (w64 (w64 (w64 (w64 (w64 (m3 + 1) + 1) + 1) + 1) + 1)), .int .i64 (w64 (w64 (w64 (w64 (w64 (w64 (m3 + 1) + 1) + 1) + 1) + 1) + 1))] ∧ MarkC Try.prog 39 (.one (.sl 9 (x.Queue.map XCall.ps))) (n) (.one (.sl 9 q1)) m1 ∧ PureC Try.prog 44 [.one (.sl 9 q1), i64v (n)] [i64v m1] ∧ 0 ≤ m1 ∧ MarkC Try.prog 40 (.one (.sl 1 (x.Call.Req.Words.map intEl))) (w64 (w64 (w64 (w64 (w64 (w64 (w64 (m1 + 1) + 1) + 1) + 1) + 1) + 1) + 1)) (.one (.sl 1 q2)) m2 ∧ PureC Try.prog 45 [.one (.sl 1 q2), i64v (w64 (w64 (w64 (w64 (w64 (w64 (w64 (m1 + 1) + 1) + 1) + 1) + 1) + 1) + 1))] [i64v m2] ∧ 0 ≤ m2 ∧ MarkC Try.prog 41 (.one (.sl 1 (x.Call.Req.Bits.map boolEl))) (m2) (.one (.sl 1 q3)) m3 ∧ PureC Try.prog 46 [.one (.sl 1 q3), i64v (m2)] [i64v m3] ∧ 0 ≤ m3 ∧ w64 (w64 (w64 (w64 (w64 (w64 (w64 (m3 + 1) + 1) + 1) + 1) + 1) + 1) + 1) = n + (XLine.mc x : Nat)) l n h0 h1 (by intro x; simp [XLine.mc]; try omega) (by
      intro x hx n h0 h1
      unfold XLine.mc at h1 ⊢
      have h_0 : n = n + ((0 : Nat) : Int) := by omega
      obtain ⟨q1, M1, H1⟩ := mkCallS x.Queue (n) (by rw [h_0]; omega) (by rw [h_0]; omega)
      generalize hc1 : (n) + _ = c1 at M1 H1
      have h_1 : c1 = n + ((0 + sumF XCall.mc x.Queue : Nat) : Int) := by rw [← hc1, h_0]; push_cast; omega
      have h_2 : w64 (c1 + 1) = n + ((0 + sumF XCall.mc x.Queue + 1 : Nat) : Int) := by rw [h_1]; exact (wrap_ok (by omega) (by omega)).trans (by omega)
      have h_3 : w64 (w64 (c1 + 1) + 1) = n + ((0 + sumF XCall.mc x.Queue + 1 + 1 : Nat) : Int) := by rw [h_2]; exact (wrap_ok (by omega) (by omega)).trans (by omega)
      have h_4 : w64 (w64 (w64 (c1 + 1) + 1) + 1) = n + ((0 + sumF XCall.mc x.Queue + 1 + 1 + 1 : Nat) : Int) := by rw [h_3]; exact (wrap_ok (by omega) (by omega)).trans (by omega)
      have h_5 : w64 (w64 (w64 (w64 (c1 + 1) + 1) + 1) + 1) = n + ((0 + sumF XCall.mc x.Queue + 1 + 1 + 1 + 1 : Nat) : Int) := by rw [h_4]; exact (wrap_ok (by omega) (by omega)).trans (by omega)
      have h_6 : w64 (w64 (w64 (w64 (w64 (c1 + 1) + 1) + 1) + 1) + 1) = n + ((0 + sumF XCall.mc x.Queue + 1 + 1 + 1 + 1 + 1 : Nat) : Int) := by rw [h_5]; exact (wrap_ok (by omega) (by omega)).trans (by omega)
      have h_7 : w64 (w64 (w64 (w64 (w64 (w64 (c1 + 1) + 1) + 1) + 1) + 1) + 1) = n + ((0 + sumF XCall.mc x.Queue + 1 + 1 + 1 + 1 + 1 + 1 : Nat) : Int) := by rw [h_6]; exact (wrap_ok (by omega) (by omega)).trans (by omega)
      have h_8 : w64 (w64 (w64 (w64 (w64 (w64 (w64 (c1 + 1) + 1) + 1) + 1) + 1) + 1) + 1) = n + ((0 + sumF XCall.mc x.Queue + 1 + 1 + 1 + 1 + 1 + 1 + 1 : Nat) : Int) := by rw [h_7]; exact (wrap_ok (by omega) (by omega)).trans (by omega)
      obtain ⟨q2, M2, H2⟩ := mkIntS x.Call.Req.Words (w64 (w64 (w64 (w64 (w64 (w64 (w64 (c1 + 1) + 1) + 1) + 1) + 1) + 1) + 1)) (by rw [h_8]; omega) (by rw [h_8]; omega)
      generalize hc2 : (w64 (w64 (w64 (w64 (w64 (w64 (w64 (c1 + 1) + 1) + 1) + 1) + 1) + 1) + 1)) + _ = c2 at M2 H2
      have h_9 : c2 = n + ((0 + sumF XCall.mc x.Queue + 1 + 1 + 1 + 1 + 1 + 1 + 1 + x.Call.Req.Words.length : Nat) : Int) := by rw [← hc2, h_8]; push_cast; omega
      obtain ⟨q3, M3, H3⟩ := mkBoolS x.Call.Req.Bits (c2) (by rw [h_9]; omega) (by rw [h_9]; omega)
      generalize hc3 : (c2) + _ = c3 at M3 H3
      have h_10 : c3 = n + ((0 + sumF XCall.mc x.Queue + 1 + 1 + 1 + 1 + 1 + 1 + 1 + x.Call.Req.Words.length + x.Call.Req.Bits.length : Nat) : Int) := by rw [← hc3, h_9]; push_cast; omega
      have h_11 : w64 (c3 + 1) = n + ((0 + sumF XCall.mc x.Queue + 1 + 1 + 1 + 1 + 1 + 1 + 1 + x.Call.Req.Words.length + x.Call.Req.Bits.length + 1 : Nat) : Int) := by rw [h_10]; exact (wrap_ok (by omega) (by omega)).trans (by omega)
      have h_12 : w64 (w64 (c3 + 1) + 1) = n + ((0 + sumF XCall.mc x.Queue + 1 + 1 + 1 + 1 + 1 + 1 + 1 + x.Call.Req.Words.length + x.Call.Req.Bits.length + 1 + 1 : Nat) : Int) := by rw [h_11]; exact (wrap_ok (by omega) (by omega)).trans (by omega)
      have h_13 : w64 (w64 (w64 (c3 + 1) + 1) + 1) = n + ((0 + sumF XCall.mc x.Queue + 1 + 1 + 1 + 1 + 1 + 1 + 1 + x.Call.Req.Words.length + x.Call.Req.Bits.length + 1 + 1 + 1 : Nat) : Int) := by rw [h_12]; exact (wrap_ok (by omega) (by omega)).trans (by omega)
      have h_14 : w64 (w64 (w64 (w64 (c3 + 1) + 1) + 1) + 1) = n + ((0 + sumF XCall.mc x.Queue + 1 + 1 + 1 + 1 + 1 + 1 + 1 + x.Call.Req.Words.length + x.Call.Req.Bits.length + 1 + 1 + 1 + 1 : Nat) : Int) := by rw [h_13]; exact (wrap_ok (by omega) (by omega)).trans (by omega)
      have h_15 : w64 (w64 (w64 (w64 (w64 (c3 + 1) + 1) + 1) + 1) + 1) = n + ((0 + sumF XCall.mc x.Queue + 1 + 1 + 1 + 1 + 1 + 1 + 1 + x.Call.Req.Words.length + x.Call.Req.Bits.length + 1 + 1 + 1 + 1 + 1 : Nat) : Int) := by rw [h_14]; exact (wrap_ok (by omega) (by omega)).trans (by omega)
      have h_16 : w64 (w64 (w64 (w64 (w64 (w64 (c3 + 1) + 1) + 1) + 1) + 1) + 1) = n + ((0 + sumF XCall.mc x.Queue + 1 + 1 + 1 + 1 + 1 + 1 + 1 + x.Call.Req.Words.length + x.Call.Req.Bits.length + 1 + 1 + 1 + 1 + 1 + 1 : Nat) : Int) := by rw [h_15]; exact (wrap_ok (by omega) (by omega)).trans (by omega)
      have h_17 : w64 (w64 (w64 (w64 (w64 (w64 (w64 (c3 + 1) + 1) + 1) + 1) + 1) + 1) + 1) = n + ((0 + sumF XCall.mc x.Queue + 1 + 1 + 1 + 1 + 1 + 1 + 1 + x.Call.Req.Words.length + x.Call.Req.Bits.length + 1 + 1 + 1 + 1 + 1 + 1 + 1 : Nat) : Int) := by rw [h_16]; exact (wrap_ok (by omega) (by omega)).trans (by omega)
      exact ⟨_, q1, c1, q2, c2, q3, c3, rfl, M1, H1, by omega, M2, H2, by omega, M3, H3, by omega, by rw [h_17]; try omega⟩)
  refine ⟨ys, ?_, ?_⟩
  · rw [← hN1, ← hR1, ← hR0]
    refine markC_of (Γ := lookT tbl) (il := ilist) tg drD Try.func25 rfl (by kernel_rfl) rfl (Nat.le_of_ble_eq_true rfl) (Nat.le_of_ble_eq_true rfl) rfl ?_
    conv => whnf
    refine loop_i (fun k : Nat => ⟨envL [(0, .c (.row 0)), (1, .c (.pv (.int .i64 (N k)))), (5, .c (.pv (.int .i64 k)))], resL [(0, .row true 17 (R k))], 64, 149⟩) (fun k => k ≤ l.length) (fun k => l.length - k) 0 (Nat.zero_le _) (le_mkD rfl ⟨⟨rfl, rfl⟩, ⟨i64_eq hN0.symm, rfl⟩, ⟨rfl, rfl⟩, trivial⟩ ⟨⟨rfl, rfl⟩, trivial⟩ rfl rfl) ?_
    intro k hk
    conv => whnf
    refine br_i (fun h => ?_) (fun h => ?_)
    · have hlt : k < l.length := by simpa [hRl k hk] using h
      obtain ⟨hNs, hn0, hn1, el, ⟨q1, m1, q2, m2, q3, m3, rfl, M1, H1, P1, M2, H2, P2, M3, H3, P3, hfin⟩, hy, hget, hset⟩ := hst k hlt
      have hlm : k < (R k).length := by rw [hRl k hk]; exact hlt
      conv => whnf
      refine ⟨k, ⟨⟨rfl, hlm⟩, rfl⟩, ?_⟩
      conv => whnf
      refine ⟨_, _, q1, m1, (R k).set k [.sl 9 q1, .bool l[k].Busy, .int .i64 l[k].Call.Id, .int .i64 l[k].Call.Part, .int .i64 l[k].Call.Unit, .int .i64 l[k].Call.Req.Kind, .int .i64 l[k].Call.Req.At, .int .i64 l[k].Call.Req.N, intsP l[k].Call.Req.Words, boolsP l[k].Call.Req.Bits, .int .i64 l[k].Call.Req.WAt, .int .i64 l[k].Number, .int .i64 l[k].Due, .int .i64 l[k].Left, .int .i64 l[k].Next, .int .i64 l[k].Wait, .int .i64 l[k].Tries], ⟨⟨⟨rfl, at0 hget rfl⟩, M1⟩, st0 hget rfl⟩, ?_⟩
      conv => whnf
      refine And.intro (by decide) ?_
      conv => whnf
      refine ⟨k, ⟨⟨rfl, ln1 hlm⟩, rfl⟩, ?_⟩
      conv => whnf
      refine ⟨(R k).set k [.sl 9 q1, .bool (Int.tmod (m1) 3 == 0), .int .i64 l[k].Call.Id, .int .i64 l[k].Call.Part, .int .i64 l[k].Call.Unit, .int .i64 l[k].Call.Req.Kind, .int .i64 l[k].Call.Req.At, .int .i64 l[k].Call.Req.N, intsP l[k].Call.Req.Words, boolsP l[k].Call.Req.Bits, .int .i64 l[k].Call.Req.WAt, .int .i64 l[k].Number, .int .i64 l[k].Due, .int .i64 l[k].Left, .int .i64 l[k].Next, .int .i64 l[k].Wait, .int .i64 l[k].Tries], ⟨rfl, ln1 hlm, by decide, st1 hlm rfl⟩, ?_⟩
      conv => whnf
      refine ⟨k, ⟨⟨rfl, ln1 hlm⟩, rfl⟩, ?_⟩
      conv => whnf
      refine ⟨(R k).set k [.sl 9 q1, .bool (Int.tmod (m1) 3 == 0), .int .i64 (w64 (m1 + 1)), .int .i64 l[k].Call.Part, .int .i64 l[k].Call.Unit, .int .i64 l[k].Call.Req.Kind, .int .i64 l[k].Call.Req.At, .int .i64 l[k].Call.Req.N, intsP l[k].Call.Req.Words, boolsP l[k].Call.Req.Bits, .int .i64 l[k].Call.Req.WAt, .int .i64 l[k].Number, .int .i64 l[k].Due, .int .i64 l[k].Left, .int .i64 l[k].Next, .int .i64 l[k].Wait, .int .i64 l[k].Tries], ⟨rfl, ln1 hlm, by decide, st1 hlm rfl⟩, ?_⟩
      conv => whnf
      refine ⟨k, ⟨⟨rfl, ln1 hlm⟩, rfl⟩, ?_⟩
      conv => whnf
      refine ⟨(R k).set k [.sl 9 q1, .bool (Int.tmod (m1) 3 == 0), .int .i64 (w64 (m1 + 1)), .int .i64 (w64 (w64 (m1 + 1) + 1)), .int .i64 l[k].Call.Unit, .int .i64 l[k].Call.Req.Kind, .int .i64 l[k].Call.Req.At, .int .i64 l[k].Call.Req.N, intsP l[k].Call.Req.Words, boolsP l[k].Call.Req.Bits, .int .i64 l[k].Call.Req.WAt, .int .i64 l[k].Number, .int .i64 l[k].Due, .int .i64 l[k].Left, .int .i64 l[k].Next, .int .i64 l[k].Wait, .int .i64 l[k].Tries], ⟨rfl, ln1 hlm, by decide, st1 hlm rfl⟩, ?_⟩
      conv => whnf
      refine ⟨k, ⟨⟨rfl, ln1 hlm⟩, rfl⟩, ?_⟩
      conv => whnf
      refine ⟨(R k).set k [.sl 9 q1, .bool (Int.tmod (m1) 3 == 0), .int .i64 (w64 (m1 + 1)), .int .i64 (w64 (w64 (m1 + 1) + 1)), .int .i64 (w64 (w64 (w64 (m1 + 1) + 1) + 1)), .int .i64 l[k].Call.Req.Kind, .int .i64 l[k].Call.Req.At, .int .i64 l[k].Call.Req.N, intsP l[k].Call.Req.Words, boolsP l[k].Call.Req.Bits, .int .i64 l[k].Call.Req.WAt, .int .i64 l[k].Number, .int .i64 l[k].Due, .int .i64 l[k].Left, .int .i64 l[k].Next, .int .i64 l[k].Wait, .int .i64 l[k].Tries], ⟨rfl, ln1 hlm, by decide, st1 hlm rfl⟩, ?_⟩
      conv => whnf
      refine ⟨k, ⟨⟨rfl, ln1 hlm⟩, rfl⟩, ?_⟩
      conv => whnf
      refine ⟨(R k).set k [.sl 9 q1, .bool (Int.tmod (m1) 3 == 0), .int .i64 (w64 (m1 + 1)), .int .i64 (w64 (w64 (m1 + 1) + 1)), .int .i64 (w64 (w64 (w64 (m1 + 1) + 1) + 1)), .int .i64 (w64 (w64 (w64 (w64 (m1 + 1) + 1) + 1) + 1)), .int .i64 l[k].Call.Req.At, .int .i64 l[k].Call.Req.N, intsP l[k].Call.Req.Words, boolsP l[k].Call.Req.Bits, .int .i64 l[k].Call.Req.WAt, .int .i64 l[k].Number, .int .i64 l[k].Due, .int .i64 l[k].Left, .int .i64 l[k].Next, .int .i64 l[k].Wait, .int .i64 l[k].Tries], ⟨rfl, ln1 hlm, by decide, st1 hlm rfl⟩, ?_⟩
      conv => whnf
      refine ⟨k, ⟨⟨rfl, ln1 hlm⟩, rfl⟩, ?_⟩
      conv => whnf
      refine ⟨(R k).set k [.sl 9 q1, .bool (Int.tmod (m1) 3 == 0), .int .i64 (w64 (m1 + 1)), .int .i64 (w64 (w64 (m1 + 1) + 1)), .int .i64 (w64 (w64 (w64 (m1 + 1) + 1) + 1)), .int .i64 (w64 (w64 (w64 (w64 (m1 + 1) + 1) + 1) + 1)), .int .i64 (w64 (w64 (w64 (w64 (w64 (m1 + 1) + 1) + 1) + 1) + 1)), .int .i64 l[k].Call.Req.N, intsP l[k].Call.Req.Words, boolsP l[k].Call.Req.Bits, .int .i64 l[k].Call.Req.WAt, .int .i64 l[k].Number, .int .i64 l[k].Due, .int .i64 l[k].Left, .int .i64 l[k].Next, .int .i64 l[k].Wait, .int .i64 l[k].Tries], ⟨rfl, ln1 hlm, by decide, st1 hlm rfl⟩, ?_⟩
      conv => whnf
      refine ⟨k, ⟨⟨rfl, ln1 hlm⟩, rfl⟩, ?_⟩
      conv => whnf
      refine ⟨(R k).set k [.sl 9 q1, .bool (Int.tmod (m1) 3 == 0), .int .i64 (w64 (m1 + 1)), .int .i64 (w64 (w64 (m1 + 1) + 1)), .int .i64 (w64 (w64 (w64 (m1 + 1) + 1) + 1)), .int .i64 (w64 (w64 (w64 (w64 (m1 + 1) + 1) + 1) + 1)), .int .i64 (w64 (w64 (w64 (w64 (w64 (m1 + 1) + 1) + 1) + 1) + 1)), .int .i64 (w64 (w64 (w64 (w64 (w64 (w64 (m1 + 1) + 1) + 1) + 1) + 1) + 1)), intsP l[k].Call.Req.Words, boolsP l[k].Call.Req.Bits, .int .i64 l[k].Call.Req.WAt, .int .i64 l[k].Number, .int .i64 l[k].Due, .int .i64 l[k].Left, .int .i64 l[k].Next, .int .i64 l[k].Wait, .int .i64 l[k].Tries], ⟨rfl, ln1 hlm, by decide, st1 hlm rfl⟩, ?_⟩
      conv => whnf
      refine ⟨k, ⟨⟨rfl, ln1 hlm⟩, rfl⟩, ?_⟩
      conv => whnf
      refine ⟨_, _, q2, m2, (R k).set k [.sl 9 q1, .bool (Int.tmod (m1) 3 == 0), .int .i64 (w64 (m1 + 1)), .int .i64 (w64 (w64 (m1 + 1) + 1)), .int .i64 (w64 (w64 (w64 (m1 + 1) + 1) + 1)), .int .i64 (w64 (w64 (w64 (w64 (m1 + 1) + 1) + 1) + 1)), .int .i64 (w64 (w64 (w64 (w64 (w64 (m1 + 1) + 1) + 1) + 1) + 1)), .int .i64 (w64 (w64 (w64 (w64 (w64 (w64 (m1 + 1) + 1) + 1) + 1) + 1) + 1)), .sl 1 q2, boolsP l[k].Call.Req.Bits, .int .i64 l[k].Call.Req.WAt, .int .i64 l[k].Number, .int .i64 l[k].Due, .int .i64 l[k].Left, .int .i64 l[k].Next, .int .i64 l[k].Wait, .int .i64 l[k].Tries], ⟨⟨⟨rfl, at1 hlm rfl⟩, M2⟩, st1 hlm rfl⟩, ?_⟩
      conv => whnf
      refine ⟨k, ⟨⟨rfl, ln1 hlm⟩, rfl⟩, ?_⟩
      conv => whnf
      refine ⟨_, _, q3, m3, (R k).set k [.sl 9 q1, .bool (Int.tmod (m1) 3 == 0), .int .i64 (w64 (m1 + 1)), .int .i64 (w64 (w64 (m1 + 1) + 1)), .int .i64 (w64 (w64 (w64 (m1 + 1) + 1) + 1)), .int .i64 (w64 (w64 (w64 (w64 (m1 + 1) + 1) + 1) + 1)), .int .i64 (w64 (w64 (w64 (w64 (w64 (m1 + 1) + 1) + 1) + 1) + 1)), .int .i64 (w64 (w64 (w64 (w64 (w64 (w64 (m1 + 1) + 1) + 1) + 1) + 1) + 1)), .sl 1 q2, .sl 1 q3, .int .i64 l[k].Call.Req.WAt, .int .i64 l[k].Number, .int .i64 l[k].Due, .int .i64 l[k].Left, .int .i64 l[k].Next, .int .i64 l[k].Wait, .int .i64 l[k].Tries], ⟨⟨⟨rfl, at1 hlm rfl⟩, M3⟩, st1 hlm rfl⟩, ?_⟩
      conv => whnf
      refine ⟨k, ⟨⟨rfl, ln1 hlm⟩, rfl⟩, ?_⟩
      conv => whnf
      refine ⟨(R k).set k [.sl 9 q1, .bool (Int.tmod (m1) 3 == 0), .int .i64 (w64 (m1 + 1)), .int .i64 (w64 (w64 (m1 + 1) + 1)), .int .i64 (w64 (w64 (w64 (m1 + 1) + 1) + 1)), .int .i64 (w64 (w64 (w64 (w64 (m1 + 1) + 1) + 1) + 1)), .int .i64 (w64 (w64 (w64 (w64 (w64 (m1 + 1) + 1) + 1) + 1) + 1)), .int .i64 (w64 (w64 (w64 (w64 (w64 (w64 (m1 + 1) + 1) + 1) + 1) + 1) + 1)), .sl 1 q2, .sl 1 q3, .int .i64 (m3), .int .i64 l[k].Number, .int .i64 l[k].Due, .int .i64 l[k].Left, .int .i64 l[k].Next, .int .i64 l[k].Wait, .int .i64 l[k].Tries], ⟨rfl, ln1 hlm, by decide, st1 hlm rfl⟩, ?_⟩
      conv => whnf
      refine ⟨k, ⟨⟨rfl, ln1 hlm⟩, rfl⟩, ?_⟩
      conv => whnf
      refine ⟨(R k).set k [.sl 9 q1, .bool (Int.tmod (m1) 3 == 0), .int .i64 (w64 (m1 + 1)), .int .i64 (w64 (w64 (m1 + 1) + 1)), .int .i64 (w64 (w64 (w64 (m1 + 1) + 1) + 1)), .int .i64 (w64 (w64 (w64 (w64 (m1 + 1) + 1) + 1) + 1)), .int .i64 (w64 (w64 (w64 (w64 (w64 (m1 + 1) + 1) + 1) + 1) + 1)), .int .i64 (w64 (w64 (w64 (w64 (w64 (w64 (m1 + 1) + 1) + 1) + 1) + 1) + 1)), .sl 1 q2, .sl 1 q3, .int .i64 (m3), .int .i64 (w64 (m3 + 1)), .int .i64 l[k].Due, .int .i64 l[k].Left, .int .i64 l[k].Next, .int .i64 l[k].Wait, .int .i64 l[k].Tries], ⟨rfl, ln1 hlm, by decide, st1 hlm rfl⟩, ?_⟩
      conv => whnf
      refine ⟨k, ⟨⟨rfl, ln1 hlm⟩, rfl⟩, ?_⟩
      conv => whnf
      refine ⟨(R k).set k [.sl 9 q1, .bool (Int.tmod (m1) 3 == 0), .int .i64 (w64 (m1 + 1)), .int .i64 (w64 (w64 (m1 + 1) + 1)), .int .i64 (w64 (w64 (w64 (m1 + 1) + 1) + 1)), .int .i64 (w64 (w64 (w64 (w64 (m1 + 1) + 1) + 1) + 1)), .int .i64 (w64 (w64 (w64 (w64 (w64 (m1 + 1) + 1) + 1) + 1) + 1)), .int .i64 (w64 (w64 (w64 (w64 (w64 (w64 (m1 + 1) + 1) + 1) + 1) + 1) + 1)), .sl 1 q2, .sl 1 q3, .int .i64 (m3), .int .i64 (w64 (m3 + 1)), .int .i64 (w64 (w64 (m3 + 1) + 1)), .int .i64 l[k].Left, .int .i64 l[k].Next, .int .i64 l[k].Wait, .int .i64 l[k].Tries], ⟨rfl, ln1 hlm, by decide, st1 hlm rfl⟩, ?_⟩
      conv => whnf
      refine ⟨k, ⟨⟨rfl, ln1 hlm⟩, rfl⟩, ?_⟩
      conv => whnf
      refine ⟨(R k).set k [.sl 9 q1, .bool (Int.tmod (m1) 3 == 0), .int .i64 (w64 (m1 + 1)), .int .i64 (w64 (w64 (m1 + 1) + 1)), .int .i64 (w64 (w64 (w64 (m1 + 1) + 1) + 1)), .int .i64 (w64 (w64 (w64 (w64 (m1 + 1) + 1) + 1) + 1)), .int .i64 (w64 (w64 (w64 (w64 (w64 (m1 + 1) + 1) + 1) + 1) + 1)), .int .i64 (w64 (w64 (w64 (w64 (w64 (w64 (m1 + 1) + 1) + 1) + 1) + 1) + 1)), .sl 1 q2, .sl 1 q3, .int .i64 (m3), .int .i64 (w64 (m3 + 1)), .int .i64 (w64 (w64 (m3 + 1) + 1)), .int .i64 (w64 (w64 (w64 (m3 + 1) + 1) + 1)), .int .i64 l[k].Next, .int .i64 l[k].Wait, .int .i64 l[k].Tries], ⟨rfl, ln1 hlm, by decide, st1 hlm rfl⟩, ?_⟩
      conv => whnf
      refine ⟨k, ⟨⟨rfl, ln1 hlm⟩, rfl⟩, ?_⟩
      conv => whnf
      refine ⟨(R k).set k [.sl 9 q1, .bool (Int.tmod (m1) 3 == 0), .int .i64 (w64 (m1 + 1)), .int .i64 (w64 (w64 (m1 + 1) + 1)), .int .i64 (w64 (w64 (w64 (m1 + 1) + 1) + 1)), .int .i64 (w64 (w64 (w64 (w64 (m1 + 1) + 1) + 1) + 1)), .int .i64 (w64 (w64 (w64 (w64 (w64 (m1 + 1) + 1) + 1) + 1) + 1)), .int .i64 (w64 (w64 (w64 (w64 (w64 (w64 (m1 + 1) + 1) + 1) + 1) + 1) + 1)), .sl 1 q2, .sl 1 q3, .int .i64 (m3), .int .i64 (w64 (m3 + 1)), .int .i64 (w64 (w64 (m3 + 1) + 1)), .int .i64 (w64 (w64 (w64 (m3 + 1) + 1) + 1)), .int .i64 (w64 (w64 (w64 (w64 (m3 + 1) + 1) + 1) + 1)), .int .i64 l[k].Wait, .int .i64 l[k].Tries], ⟨rfl, ln1 hlm, by decide, st1 hlm rfl⟩, ?_⟩
      conv => whnf
      refine ⟨k, ⟨⟨rfl, ln1 hlm⟩, rfl⟩, ?_⟩
      conv => whnf
      refine ⟨(R k).set k [.sl 9 q1, .bool (Int.tmod (m1) 3 == 0), .int .i64 (w64 (m1 + 1)), .int .i64 (w64 (w64 (m1 + 1) + 1)), .int .i64 (w64 (w64 (w64 (m1 + 1) + 1) + 1)), .int .i64 (w64 (w64 (w64 (w64 (m1 + 1) + 1) + 1) + 1)), .int .i64 (w64 (w64 (w64 (w64 (w64 (m1 + 1) + 1) + 1) + 1) + 1)), .int .i64 (w64 (w64 (w64 (w64 (w64 (w64 (m1 + 1) + 1) + 1) + 1) + 1) + 1)), .sl 1 q2, .sl 1 q3, .int .i64 (m3), .int .i64 (w64 (m3 + 1)), .int .i64 (w64 (w64 (m3 + 1) + 1)), .int .i64 (w64 (w64 (w64 (m3 + 1) + 1) + 1)), .int .i64 (w64 (w64 (w64 (w64 (m3 + 1) + 1) + 1) + 1)), .int .i64 (w64 (w64 (w64 (w64 (w64 (m3 + 1) + 1) + 1) + 1) + 1)), .int .i64 l[k].Tries], ⟨rfl, ln1 hlm, by decide, st1 hlm rfl⟩, ?_⟩
      conv => whnf
      refine ⟨k, ⟨⟨rfl, ln1 hlm⟩, rfl⟩, ?_⟩
      conv => whnf
      refine ⟨(R k).set k [.sl 9 q1, .bool (Int.tmod (m1) 3 == 0), .int .i64 (w64 (m1 + 1)), .int .i64 (w64 (w64 (m1 + 1) + 1)), .int .i64 (w64 (w64 (w64 (m1 + 1) + 1) + 1)), .int .i64 (w64 (w64 (w64 (w64 (m1 + 1) + 1) + 1) + 1)), .int .i64 (w64 (w64 (w64 (w64 (w64 (m1 + 1) + 1) + 1) + 1) + 1)), .int .i64 (w64 (w64 (w64 (w64 (w64 (w64 (m1 + 1) + 1) + 1) + 1) + 1) + 1)), .sl 1 q2, .sl 1 q3, .int .i64 (m3), .int .i64 (w64 (m3 + 1)), .int .i64 (w64 (w64 (m3 + 1) + 1)), .int .i64 (w64 (w64 (w64 (m3 + 1) + 1) + 1)), .int .i64 (w64 (w64 (w64 (w64 (m3 + 1) + 1) + 1) + 1)), .int .i64 (w64 (w64 (w64 (w64 (w64 (m3 + 1) + 1) + 1) + 1) + 1)), .int .i64 (w64 (w64 (w64 (w64 (w64 (w64 (m3 + 1) + 1) + 1) + 1) + 1) + 1))], ⟨rfl, ln1 hlm, by decide, st1 hlm rfl⟩, ?_⟩
      conv => whnf
      exact ⟨k + 1, ⟨hlt, by omega⟩, le_mkD rfl ⟨⟨rfl, rfl⟩, ⟨i64_eq (hfin.trans hNs.symm), rfl⟩, ⟨ctr (by omega), rfl⟩, trivial⟩ ⟨⟨row_eq hset, rfl⟩, trivial⟩ rfl rfl⟩
    · have hk2 : k = l.length := by simp [hRl k hk] at h; omega
      subst hk2
      conv => whnf
      exact ⟨rfl, ⟨_, _, rfl, rfl⟩, trivial⟩
  · rw [← hN1]
    refine pureC_of (Γ := lookT tbl) (il := ilist) tg dr Try.func28 rfl (by kernel_rfl) rfl (Nat.le_of_ble_eq_true rfl) ?_
    conv => whnf
    refine loop_i (fun k : Nat => ⟨envL [(0, .c (.pv (.sl 17 ys))), (1, .c (.pv (.int .i64 (N k)))), (5, .c (.pv (.int .i64 k)))], resL [], 0, 183⟩) (fun k => k ≤ l.length) (fun k => l.length - k) 0 (Nat.zero_le _) (le_mk [] rfl ⟨⟨rfl, rfl⟩, ⟨i64_eq hN0.symm, rfl⟩, ⟨rfl, rfl⟩, trivial⟩ trivial rfl) ?_
    intro k hk
    conv => whnf
    refine br_i (fun h => ?_) (fun h => ?_)
    · have hlt : k < l.length := by simpa [hyl] using h
      obtain ⟨hNs, hn0, hn1, el, ⟨q1, m1, q2, m2, q3, m3, rfl, M1, H1, P1, M2, H2, P2, M3, H3, P3, hfin⟩, hy, hget, hset⟩ := hst k hlt
      have hix : (0 ≤ (k : Int) ∧ ys[(k : Int).toNat]? = some [.sl 9 q1, .bool (Int.tmod (m1) 3 == 0), .int .i64 (w64 (m1 + 1)), .int .i64 (w64 (w64 (m1 + 1) + 1)), .int .i64 (w64 (w64 (w64 (m1 + 1) + 1) + 1)), .int .i64 (w64 (w64 (w64 (w64 (m1 + 1) + 1) + 1) + 1)), .int .i64 (w64 (w64 (w64 (w64 (w64 (m1 + 1) + 1) + 1) + 1) + 1)), .int .i64 (w64 (w64 (w64 (w64 (w64 (w64 (m1 + 1) + 1) + 1) + 1) + 1) + 1)), .sl 1 q2, .sl 1 q3, .int .i64 (m3), .int .i64 (w64 (m3 + 1)), .int .i64 (w64 (w64 (m3 + 1) + 1)), .int .i64 (w64 (w64 (w64 (m3 + 1) + 1) + 1)), .int .i64 (w64 (w64 (w64 (w64 (m3 + 1) + 1) + 1) + 1)), .int .i64 (w64 (w64 (w64 (w64 (w64 (m3 + 1) + 1) + 1) + 1) + 1)), .int .i64 (w64 (w64 (w64 (w64 (w64 (w64 (m3 + 1) + 1) + 1) + 1) + 1) + 1))]) ∧ 17 = 17 := ⟨⟨by omega, hy⟩, rfl⟩
      conv => whnf
      refine ⟨_, hix, ?_⟩
      conv => whnf
      refine call_i H1 ?_
      conv => whnf
      refine br_i (fun h => absurd (dlt h) (by omega)) (fun h => ?_)
      conv => whnf
      refine ⟨_, hix, ?_⟩
      conv => whnf
      refine And.intro (by decide) ?_
      conv => whnf
      refine br_i (fun h => absurd h (by simp)) (fun h => ?_)
      conv => whnf
      refine ⟨_, hix, ?_⟩
      conv => whnf
      refine br_i (fun h => absurd h (by simp)) (fun h => ?_)
      conv => whnf
      refine ⟨_, hix, ?_⟩
      conv => whnf
      refine br_i (fun h => absurd h (by simp)) (fun h => ?_)
      conv => whnf
      refine ⟨_, hix, ?_⟩
      conv => whnf
      refine br_i (fun h => absurd h (by simp)) (fun h => ?_)
      conv => whnf
      refine ⟨_, hix, ?_⟩
      conv => whnf
      refine br_i (fun h => absurd h (by simp)) (fun h => ?_)
      conv => whnf
      refine ⟨_, hix, ?_⟩
      conv => whnf
      refine br_i (fun h => absurd h (by simp)) (fun h => ?_)
      conv => whnf
      refine ⟨_, hix, ?_⟩
      conv => whnf
      refine br_i (fun h => absurd h (by simp)) (fun h => ?_)
      conv => whnf
      refine ⟨_, hix, ?_⟩
      conv => whnf
      refine call_i H2 ?_
      conv => whnf
      refine br_i (fun h => absurd (dlt h) (by omega)) (fun h => ?_)
      conv => whnf
      refine ⟨_, hix, ?_⟩
      conv => whnf
      refine call_i H3 ?_
      conv => whnf
      refine br_i (fun h => absurd (dlt h) (by omega)) (fun h => ?_)
      conv => whnf
      refine ⟨_, hix, ?_⟩
      conv => whnf
      refine br_i (fun h => absurd h (by simp)) (fun h => ?_)
      conv => whnf
      refine ⟨_, hix, ?_⟩
      conv => whnf
      refine br_i (fun h => absurd h (by simp)) (fun h => ?_)
      conv => whnf
      refine ⟨_, hix, ?_⟩
      conv => whnf
      refine br_i (fun h => absurd h (by simp)) (fun h => ?_)
      conv => whnf
      refine ⟨_, hix, ?_⟩
      conv => whnf
      refine br_i (fun h => absurd h (by simp)) (fun h => ?_)
      conv => whnf
      refine ⟨_, hix, ?_⟩
      conv => whnf
      refine br_i (fun h => absurd h (by simp)) (fun h => ?_)
      conv => whnf
      refine ⟨_, hix, ?_⟩
      conv => whnf
      refine br_i (fun h => absurd h (by simp)) (fun h => ?_)
      conv => whnf
      refine ⟨_, hix, ?_⟩
      conv => whnf
      refine br_i (fun h => absurd h (by simp)) (fun h => ?_)
      conv => whnf
      exact ⟨k + 1, ⟨hlt, by omega⟩, le_mk [] rfl ⟨⟨rfl, rfl⟩, ⟨i64_eq (hfin.trans hNs.symm), rfl⟩, ⟨ctr (by omega), rfl⟩, trivial⟩ trivial rfl⟩
    · have hk2 : k = l.length := by simp [hyl] at h; omega
      subst hk2
      conv => whnf
      exact leaf_i rfl rfl rfl
def XFabric.sc (x : XFabric) : Nat := 0 + sumF XRule.mc x.Set.Rules + sumF XPend.mc x.Open.List_ + sumF XLine.mc x.Lines
theorem mkFabric (x : XFabric) (n : Int) (h0 : 0 ≤ n) (h1 : n + x.sc ≤ 4611686018427387904) : ∃ (q1 q2 q3 : List (List PV)), MarkC Try.prog 11 x.v n (.agg [.int .i64 x.Now, .int .i64 x.Set.Wait, .int .i64 x.Set.Tries, .sl 7 q1, .int .i64 x.Open.Next, .sl 13 q2, .sl 17 q3, .int .i64 x.Asked, .int .i64 x.Replied, .int .i64 x.Faults, .int .i64 x.Sent]) (n + x.sc) ∧ PureC Try.prog 12 [.agg [.int .i64 x.Now, .int .i64 x.Set.Wait, .int .i64 x.Set.Tries, .sl 7 q1, .int .i64 x.Open.Next, .sl 13 q2, .sl 17 q3, .int .i64 x.Asked, .int .i64 x.Replied, .int .i64 x.Faults, .int .i64 x.Sent], i64v n] [i64v (n + x.sc)] := by
  unfold XFabric.sc at *
  have h_0 : n = n + ((0 : Nat) : Int) := by omega
  obtain ⟨q1, M1, H1⟩ := mkConfig x.Set (n) (by rw [h_0]; omega) (by rw [h_0]; unfold XConfig.sc; omega)
  generalize hc1 : (n) + ((_ : Nat) : Int) = c1 at M1 H1
  have h_1 : c1 = n + ((0 + (0 + sumF XRule.mc x.Set.Rules) : Nat) : Int) := by rw [← hc1, h_0]; unfold XConfig.sc; push_cast; omega
  obtain ⟨q2, M2, H2⟩ := mkTable x.Open (c1) (by rw [h_1]; omega) (by rw [h_1]; unfold XTable.sc; omega)
  generalize hc2 : (c1) + ((_ : Nat) : Int) = c2 at M2 H2
  have h_2 : c2 = n + ((0 + (0 + sumF XRule.mc x.Set.Rules) + (0 + sumF XPend.mc x.Open.List_) : Nat) : Int) := by rw [← hc2, h_1]; unfold XTable.sc; push_cast; omega
  obtain ⟨q3, M3, H3⟩ := mkLineS x.Lines (c2) (by rw [h_2]; omega) (by rw [h_2]; omega)
  generalize hc3 : (c2) + ((_ : Nat) : Int) = c3 at M3 H3
  have h_3 : c3 = n + ((0 + (0 + sumF XRule.mc x.Set.Rules) + (0 + sumF XPend.mc x.Open.List_) + sumF XLine.mc x.Lines : Nat) : Int) := by rw [← hc3, h_2]; push_cast; omega
  have hfin : c3 = n + ((0 + sumF XRule.mc x.Set.Rules + sumF XPend.mc x.Open.List_ + sumF XLine.mc x.Lines : Nat) : Int) := by rw [h_3]; try omega
  refine ⟨q1, q2, q3, ?_, ?_⟩
  · refine markC_of (Γ := lookT tbl) (il := ilist) tg drD Try.func11 rfl (by kernel_rfl) rfl (Nat.le_of_ble_eq_true rfl) (Nat.le_of_ble_eq_true rfl) rfl ?_
    conv => whnf
    refine mark_i M1 rfl ?_
    conv => whnf
    refine mark_i M2 rfl ?_
    conv => whnf
    refine mark_i M3 rfl ?_
    conv => whnf
    exact ⟨i64s_eq hfin, rfl, rfl, rfl, ⟨_, _, rfl, rfl⟩, rfl, ⟨_, _, rfl, rfl⟩, ⟨_, _, rfl, rfl⟩, rfl, rfl, rfl, rfl, trivial⟩
  · refine pureC_of (Γ := lookT tbl) (il := ilist) tg dr Try.func12 rfl (by kernel_rfl) rfl (Nat.le_of_ble_eq_true rfl) ?_
    conv => whnf
    refine call_i H1 ?_
    conv => whnf
    refine br_i (fun h => absurd (dlt h) (by omega)) (fun h => ?_)
    conv => whnf
    refine call_i H2 ?_
    conv => whnf
    refine br_i (fun h => absurd (dlt h) (by omega)) (fun h => ?_)
    conv => whnf
    refine call_i H3 ?_
    conv => whnf
    refine br_i (fun h => absurd (dlt h) (by omega)) (fun h => ?_)
    conv => whnf
    exact leaf_i rfl rfl (i64l_eq hfin)
end Go.Proofs.Ytfpcgomngnfdeaa
