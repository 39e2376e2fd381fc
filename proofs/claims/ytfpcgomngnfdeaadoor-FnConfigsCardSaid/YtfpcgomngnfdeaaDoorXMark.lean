/- Marks, written and found again. -/
import Derived.Test.YtfpcgomngnfdeaaDoorXHelp
namespace Go.Proofs.YtfpcgomngnfdeaaDoor
open Go Go.Vi
set_option linter.unusedVariables false
set_option linter.unusedSimpArgs false
set_option maxRecDepth 100000
def XRule.mc (x : XRule) : Nat := 7
theorem mkRuleS (l : List XRule) : MkS Tryd.prog 24 25 7 (l.map XRule.ps) (sumF XRule.mc l) := by
  intro n h0 h1
  obtain ⟨N, ys, R, hlen, hN0, hN1, hyl, hR0, hR1, hRl, hst⟩ := chain XRule.ps XRule.mc (fun x n el => el = [.int .i64 (n), .int .i64 (w64 (n + 1)), .int .i64 (w64 (w64 (n + 1) + 1)), .int .i64 (w64 (w64 (w64 (n + 1) + 1) + 1)), .int .i64 (w64 (w64 (w64 (w64 (n + 1) + 1) + 1) + 1)), .int .i64 (w64 (w64 (w64 (w64 (w64 (n + 1) + 1) + 1) + 1) + 1)), .int .i64 (w64 (w64 (w64 (w64 (w64 (w64 (n + 1) + 1) + 1) + 1) + 1) + 1))] ∧ w64 (w64 (w64 (w64 (w64 (w64 (w64 (n + 1) + 1) + 1) + 1) + 1) + 1) + 1) = n + (XRule.mc x : Nat)) l n h0 h1 (by intro x; simp [XRule.mc]; try omega) (by
      intro x hx n h0 h1
      unfold XRule.mc at h1 ⊢
      have h_0 : n = n + ((0 : Nat) : Int) := by omega
      have h_1 : w64 (n + 1) = n + ((0 + 1 : Nat) : Int) := by rw [h_0]; exact (wrap_ok (by omega) (by omega)).trans (by omega)
      have h_2 : w64 (w64 (n + 1) + 1) = n + ((0 + 1 + 1 : Nat) : Int) := by rw [h_1]; exact (wrap_ok (by omega) (by omega)).trans (by omega)
      have h_3 : w64 (w64 (w64 (n + 1) + 1) + 1) = n + ((0 + 1 + 1 + 1 : Nat) : Int) := by rw [h_2]; exact (wrap_ok (by omega) (by omega)).trans (by omega)
      have h_4 : w64 (w64 (w64 (w64 (n + 1) + 1) + 1) + 1) = n + ((0 + 1 + 1 + 1 + 1 : Nat) : Int) := by rw [h_3]; exact (wrap_ok (by omega) (by omega)).trans (by omega)
      have h_5 : w64 (w64 (w64 (w64 (w64 (n + 1) + 1) + 1) + 1) + 1) = n + ((0 + 1 + 1 + 1 + 1 + 1 : Nat) : Int) := by rw [h_4]; exact (wrap_ok (by omega) (by omega)).trans (by omega)
      have h_6 : w64 (w64 (w64 (w64 (w64 (w64 (n + 1) + 1) + 1) + 1) + 1) + 1) = n + ((0 + 1 + 1 + 1 + 1 + 1 + 1 : Nat) : Int) := by rw [h_5]; exact (wrap_ok (by omega) (by omega)).trans (by omega)
      have h_7 : w64 (w64 (w64 (w64 (w64 (w64 (w64 (n + 1) + 1) + 1) + 1) + 1) + 1) + 1) = n + ((0 + 1 + 1 + 1 + 1 + 1 + 1 + 1 : Nat) : Int) := by rw [h_6]; exact (wrap_ok (by omega) (by omega)).trans (by omega)
      exact ⟨_, rfl, by rw [h_7]; try omega⟩)
  refine ⟨ys, ?_, ?_⟩
  · rw [← hN1, ← hR1, ← hR0]
    refine markC_of (Γ := lookT tbl) (il := ilist) tg drD Tryd.func24 rfl (by kernel_rfl) rfl (Nat.le_of_ble_eq_true rfl) (Nat.le_of_ble_eq_true rfl) rfl ?_
    conv => whnf
    refine loop_i (fun k : Nat => ⟨envL [(0, .c (.row 0)), (1, .c (.pv (.int .i64 (N k)))), (5, .c (.pv (.int .i64 k)))], resL [(0, .row true 7 (R k))], 64, 62⟩) (fun k => k ≤ l.length) (fun k => l.length - k) 0 (Nat.zero_le _) (le_mkD rfl ⟨⟨rfl, rfl⟩, ⟨i64_eq hN0.symm, rfl⟩, ⟨rfl, rfl⟩, trivial⟩ ⟨⟨rfl, rfl⟩, trivial⟩ rfl rfl) ?_
    intro k hk
    conv => whnf
    refine br_i (fun h => ?_) (fun h => ?_)
    · have hlt : k < l.length := by simpa [hRl k hk] using h
      obtain ⟨hNs, hn0, hn1, el, ⟨rfl, hfin⟩, hy, hget, hset⟩ := hst k hlt
      have hlm : k < (R k).length := by rw [hRl k hk]; exact hlt
      conv => whnf
      refine ⟨k, ⟨⟨rfl, hlm⟩, rfl⟩, ?_⟩
      conv => whnf
      refine ⟨(R k).set k [.int .i64 (N k), .int .i64 l[k].Space, .int .i64 l[k].Lo, .int .i64 l[k].Hi, .int .i64 l[k].Port, .int .i64 l[k].To, .int .i64 l[k].Shift], ⟨rfl, hlm, by decide, st0 hget rfl⟩, ?_⟩
      conv => whnf
      refine ⟨k, ⟨⟨rfl, ln1 hlm⟩, rfl⟩, ?_⟩
      conv => whnf
      refine ⟨(R k).set k [.int .i64 (N k), .int .i64 (w64 (N k + 1)), .int .i64 l[k].Lo, .int .i64 l[k].Hi, .int .i64 l[k].Port, .int .i64 l[k].To, .int .i64 l[k].Shift], ⟨rfl, ln1 hlm, by decide, st1 hlm rfl⟩, ?_⟩
      conv => whnf
      refine ⟨k, ⟨⟨rfl, ln1 hlm⟩, rfl⟩, ?_⟩
      conv => whnf
      refine ⟨(R k).set k [.int .i64 (N k), .int .i64 (w64 (N k + 1)), .int .i64 (w64 (w64 (N k + 1) + 1)), .int .i64 l[k].Hi, .int .i64 l[k].Port, .int .i64 l[k].To, .int .i64 l[k].Shift], ⟨rfl, ln1 hlm, by decide, st1 hlm rfl⟩, ?_⟩
      conv => whnf
      refine ⟨k, ⟨⟨rfl, ln1 hlm⟩, rfl⟩, ?_⟩
      conv => whnf
      refine ⟨(R k).set k [.int .i64 (N k), .int .i64 (w64 (N k + 1)), .int .i64 (w64 (w64 (N k + 1) + 1)), .int .i64 (w64 (w64 (w64 (N k + 1) + 1) + 1)), .int .i64 l[k].Port, .int .i64 l[k].To, .int .i64 l[k].Shift], ⟨rfl, ln1 hlm, by decide, st1 hlm rfl⟩, ?_⟩
      conv => whnf
      refine ⟨k, ⟨⟨rfl, ln1 hlm⟩, rfl⟩, ?_⟩
      conv => whnf
      refine ⟨(R k).set k [.int .i64 (N k), .int .i64 (w64 (N k + 1)), .int .i64 (w64 (w64 (N k + 1) + 1)), .int .i64 (w64 (w64 (w64 (N k + 1) + 1) + 1)), .int .i64 (w64 (w64 (w64 (w64 (N k + 1) + 1) + 1) + 1)), .int .i64 l[k].To, .int .i64 l[k].Shift], ⟨rfl, ln1 hlm, by decide, st1 hlm rfl⟩, ?_⟩
      conv => whnf
      refine ⟨k, ⟨⟨rfl, ln1 hlm⟩, rfl⟩, ?_⟩
      conv => whnf
      refine ⟨(R k).set k [.int .i64 (N k), .int .i64 (w64 (N k + 1)), .int .i64 (w64 (w64 (N k + 1) + 1)), .int .i64 (w64 (w64 (w64 (N k + 1) + 1) + 1)), .int .i64 (w64 (w64 (w64 (w64 (N k + 1) + 1) + 1) + 1)), .int .i64 (w64 (w64 (w64 (w64 (w64 (N k + 1) + 1) + 1) + 1) + 1)), .int .i64 l[k].Shift], ⟨rfl, ln1 hlm, by decide, st1 hlm rfl⟩, ?_⟩
      conv => whnf
      refine ⟨k, ⟨⟨rfl, ln1 hlm⟩, rfl⟩, ?_⟩
      conv => whnf
      refine ⟨(R k).set k [.int .i64 (N k), .int .i64 (w64 (N k + 1)), .int .i64 (w64 (w64 (N k + 1) + 1)), .int .i64 (w64 (w64 (w64 (N k + 1) + 1) + 1)), .int .i64 (w64 (w64 (w64 (w64 (N k + 1) + 1) + 1) + 1)), .int .i64 (w64 (w64 (w64 (w64 (w64 (N k + 1) + 1) + 1) + 1) + 1)), .int .i64 (w64 (w64 (w64 (w64 (w64 (w64 (N k + 1) + 1) + 1) + 1) + 1) + 1))], ⟨rfl, ln1 hlm, by decide, st1 hlm rfl⟩, ?_⟩
      conv => whnf
      exact ⟨k + 1, ⟨hlt, by omega⟩, le_mkD rfl ⟨⟨rfl, rfl⟩, ⟨i64_eq (hfin.trans hNs.symm), rfl⟩, ⟨ctr (by omega), rfl⟩, trivial⟩ ⟨⟨row_eq hset, rfl⟩, trivial⟩ rfl rfl⟩
    · have hk2 : k = l.length := by simp [hRl k hk] at h; omega
      subst hk2
      conv => whnf
      exact ⟨rfl, ⟨_, _, rfl, rfl⟩, trivial⟩
  · rw [← hN1]
    refine pureC_of (Γ := lookT tbl) (il := ilist) tg dr Tryd.func25 rfl (by kernel_rfl) rfl (Nat.le_of_ble_eq_true rfl) ?_
    conv => whnf
    refine loop_i (fun k : Nat => ⟨envL [(0, .c (.pv (.sl 7 ys))), (1, .c (.pv (.int .i64 (N k)))), (5, .c (.pv (.int .i64 k)))], resL [], 0, 76⟩) (fun k => k ≤ l.length) (fun k => l.length - k) 0 (Nat.zero_le _) (le_mk [] rfl ⟨⟨rfl, rfl⟩, ⟨i64_eq hN0.symm, rfl⟩, ⟨rfl, rfl⟩, trivial⟩ trivial rfl) ?_
    intro k hk
    conv => whnf
    refine br_i (fun h => ?_) (fun h => ?_)
    · have hlt : k < l.length := by simpa [hyl] using h
      obtain ⟨hNs, hn0, hn1, el, ⟨rfl, hfin⟩, hy, hget, hset⟩ := hst k hlt
      have hix : (0 ≤ (k : Int) ∧ ys[(k : Int).toNat]? = some [.int .i64 (N k), .int .i64 (w64 (N k + 1)), .int .i64 (w64 (w64 (N k + 1) + 1)), .int .i64 (w64 (w64 (w64 (N k + 1) + 1) + 1)), .int .i64 (w64 (w64 (w64 (w64 (N k + 1) + 1) + 1) + 1)), .int .i64 (w64 (w64 (w64 (w64 (w64 (N k + 1) + 1) + 1) + 1) + 1)), .int .i64 (w64 (w64 (w64 (w64 (w64 (w64 (N k + 1) + 1) + 1) + 1) + 1) + 1))]) ∧ 7 = 7 := ⟨⟨by omega, hy⟩, rfl⟩
      conv => whnf
      refine ⟨_, hix, ?_⟩
      conv => whnf
      refine br_i (fun h => absurd h (by simp)) (fun h => ?_)
      conv => whnf
      refine ⟨_, hix, ?_⟩
      conv => whnf
      refine br_i (fun h => absurd h (by simp)) (fun h => ?_)
      conv => whnf
      refine ⟨_, hix, ?_⟩
      conv => whnf
      refine br_i (fun h => absurd h (by simp)) (fun h => ?_)
      conv => whnf
      refine ⟨_, hix, ?_⟩
      conv => whnf
      refine br_i (fun h => absurd h (by simp)) (fun h => ?_)
      conv => whnf
      refine ⟨_, hix, ?_⟩
      conv => whnf
      refine br_i (fun h => absurd h (by simp)) (fun h => ?_)
      conv => whnf
      refine ⟨_, hix, ?_⟩
      conv => whnf
      refine br_i (fun h => absurd h (by simp)) (fun h => ?_)
      conv => whnf
      refine ⟨_, hix, ?_⟩
      conv => whnf
      refine br_i (fun h => absurd h (by simp)) (fun h => ?_)
      conv => whnf
      exact ⟨k + 1, ⟨hlt, by omega⟩, le_mk [] rfl ⟨⟨rfl, rfl⟩, ⟨i64_eq (hfin.trans hNs.symm), rfl⟩, ⟨ctr (by omega), rfl⟩, trivial⟩ trivial rfl⟩
    · have hk2 : k = l.length := by simp [hyl] at h; omega
      subst hk2
      conv => whnf
      exact leaf_i rfl rfl rfl
def XConfig.sc (x : XConfig) : Nat := 0 + sumF XRule.mc x.Rules
theorem mkConfig (x : XConfig) (n : Int) (h0 : 0 ≤ n) (h1 : n + x.sc ≤ 4611686018427387904) : ∃ (q1 : List (List PV)), MarkC Tryd.prog 9 x.v n (.agg [.int .i64 x.Wait, .int .i64 x.Tries, .sl 7 q1]) (n + x.sc) ∧ PureC Tryd.prog 10 [.agg [.int .i64 x.Wait, .int .i64 x.Tries, .sl 7 q1], i64v n] [i64v (n + x.sc)] := by
  unfold XConfig.sc at *
  have h_0 : n = n + ((0 : Nat) : Int) := by omega
  obtain ⟨q1, M1, H1⟩ := mkRuleS x.Rules (n) (by rw [h_0]; omega) (by rw [h_0]; omega)
  generalize hc1 : (n) + ((_ : Nat) : Int) = c1 at M1 H1
  have h_1 : c1 = n + ((0 + sumF XRule.mc x.Rules : Nat) : Int) := by rw [← hc1, h_0]; push_cast; omega
  have hfin : c1 = n + ((0 + sumF XRule.mc x.Rules : Nat) : Int) := by rw [h_1]; try omega
  refine ⟨q1, ?_, ?_⟩
  · refine markC_of (Γ := lookT tbl) (il := ilist) tg drD Tryd.func9 rfl (by kernel_rfl) rfl (Nat.le_of_ble_eq_true rfl) (Nat.le_of_ble_eq_true rfl) rfl ?_
    conv => whnf
    refine mark_i M1 rfl ?_
    conv => whnf
    exact ⟨i64s_eq hfin, rfl, rfl, ⟨_, _, rfl, rfl⟩, trivial⟩
  · refine pureC_of (Γ := lookT tbl) (il := ilist) tg dr Tryd.func10 rfl (by kernel_rfl) rfl (Nat.le_of_ble_eq_true rfl) ?_
    conv => whnf
    refine call_i H1 ?_
    conv => whnf
    refine br_i (fun h => absurd (dlt h) (by omega)) (fun h => ?_)
    conv => whnf
    exact leaf_i rfl rfl (i64l_eq hfin)
end Go.Proofs.YtfpcgomngnfdeaaDoor
