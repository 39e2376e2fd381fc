/- Marks, written and found again. -/
import Derived.Test.YtieenbofbfkhpaaXHelp
namespace Go.Proofs.Ytieenbofbfkhpaa
open Go Go.Vi
set_option linter.unusedVariables false
set_option linter.unusedSimpArgs false
set_option maxRecDepth 100000
theorem mkIntS (l : List Int) : MkS Try.prog 62 64 1 (l.map intEl) (l.length) := by
  intro n h0 h1
  have hsum : sumF (fun _ => 1) l = l.length := by
    clear h1; induction l with
    | nil => rfl
    | cons a l ih => simp [sumF, ih]; omega
  rw [← hsum] at h1 ⊢
  obtain ⟨N, ys, R, hlen, hN0, hN1, hyl, hR0, hR1, hRl, hst⟩ := chain intEl (fun _ => 1) (fun x n el => el = [.int .i64 (n)] ∧ w64 (n + 1) = n + ((fun _ => 1) x : Nat)) l n h0 h1 (by intro x; simp) (by
      intro x hx n h0 h1
      have h_0 : n = n + ((0 : Nat) : Int) := by omega
      have h_1 : w64 (n + 1) = n + ((0 + 1 : Nat) : Int) := by rw [h_0]; exact (wrap_ok (by omega) (by omega)).trans (by omega)
      exact ⟨_, rfl, by rw [h_1]; try omega⟩)
  refine ⟨ys, ?_, ?_⟩
  · rw [← hN1, ← hR1, ← hR0]
    refine markC_of (Γ := lookT tbl) (il := ilist) tg drD Try.func62 rfl (by kernel_rfl) rfl (Nat.le_of_ble_eq_true rfl) (Nat.le_of_ble_eq_true rfl) rfl ?_
    conv => whnf
    refine loop_i (fun k : Nat => ⟨envL [(0, .c (.row 0)), (1, .c (.pv (.int .i64 (N k)))), (5, .c (.pv (.int .i64 k)))], resL [(0, .row true 1 (R k))], 64, 19⟩) (fun k => k ≤ l.length) (fun k => l.length - k) 0 (Nat.zero_le _) (le_mkD rfl ⟨⟨rfl, rfl⟩, ⟨i64_eq hN0.symm, rfl⟩, ⟨rfl, rfl⟩, trivial⟩ ⟨⟨rfl, rfl⟩, trivial⟩ rfl rfl) ?_
    intro k hk
    conv => whnf
    refine br_i (fun h => ?_) (fun h => ?_)
    · have hlt : k < l.length := by simpa [hRl k hk] using h
      obtain ⟨hNs, hn0, hn1, el, ⟨rfl, hfin⟩, hy, hget, hset⟩ := hst k hlt
      have hlm : k < (R k).length := by rw [hRl k hk]; exact hlt
      conv => whnf
      refine ⟨k, ⟨⟨rfl, hlm⟩, rfl⟩, ?_⟩
      conv => whnf
      refine ⟨(R k).set k [.int .i64 (N k)], ⟨rfl, hlm, by decide, st0 hget rfl⟩, ?_⟩
      conv => whnf
      exact ⟨k + 1, ⟨hlt, by omega⟩, le_mkD rfl ⟨⟨rfl, rfl⟩, ⟨i64_eq (hfin.trans hNs.symm), rfl⟩, ⟨ctr (by omega), rfl⟩, trivial⟩ ⟨⟨row_eq hset, rfl⟩, trivial⟩ rfl rfl⟩
    · have hk2 : k = l.length := by simp [hRl k hk] at h; omega
      subst hk2
      conv => whnf
      exact ⟨rfl, ⟨_, _, rfl, rfl⟩, trivial⟩
  · rw [← hN1]
    refine pureC_of (Γ := lookT tbl) (il := ilist) tg dr Try.func64 rfl (by kernel_rfl) rfl (Nat.le_of_ble_eq_true rfl) ?_
    conv => whnf
    refine loop_i (fun k : Nat => ⟨envL [(0, .c (.pv (.sl 1 ys))), (1, .c (.pv (.int .i64 (N k)))), (5, .c (.pv (.int .i64 k)))], resL [], 0, 21⟩) (fun k => k ≤ l.length) (fun k => l.length - k) 0 (Nat.zero_le _) (le_mk [] rfl ⟨⟨rfl, rfl⟩, ⟨i64_eq hN0.symm, rfl⟩, ⟨rfl, rfl⟩, trivial⟩ trivial rfl) ?_
    intro k hk
    conv => whnf
    refine br_i (fun h => ?_) (fun h => ?_)
    · have hlt : k < l.length := by simpa [hyl] using h
      obtain ⟨hNs, hn0, hn1, el, ⟨rfl, hfin⟩, hy, hget, hset⟩ := hst k hlt
      have hix : (0 ≤ (k : Int) ∧ ys[(k : Int).toNat]? = some [.int .i64 (N k)]) ∧ 1 = 1 := ⟨⟨by omega, hy⟩, rfl⟩
      conv => whnf
      refine ⟨_, hix, ?_⟩
      conv => whnf
      refine br_i (fun h => absurd h (by simp)) (fun h => ?_)
      conv => whnf
      exact ⟨k + 1, ⟨hlt, by omega⟩, le_mk [] rfl ⟨⟨rfl, rfl⟩, ⟨i64_eq (hfin.trans hNs.symm), rfl⟩, ⟨ctr (by omega), rfl⟩, trivial⟩ trivial rfl⟩
    · have hk2 : k = l.length := by simp [hyl] at h; omega
      subst hk2
      conv => whnf
      exact leaf_i rfl rfl rfl
theorem mkBoolS (l : List Bool) : MkS Try.prog 63 65 1 (l.map boolEl) (l.length) := by
  intro n h0 h1
  have hsum : sumF (fun _ => 1) l = l.length := by
    clear h1; induction l with
    | nil => rfl
    | cons a l ih => simp [sumF, ih]; omega
  rw [← hsum] at h1 ⊢
  obtain ⟨N, ys, R, hlen, hN0, hN1, hyl, hR0, hR1, hRl, hst⟩ := chain boolEl (fun _ => 1) (fun x n el => el = [.bool (Int.tmod (n) 3 == 0)] ∧ w64 (n + 1) = n + ((fun _ => 1) x : Nat)) l n h0 h1 (by intro x; simp) (by
      intro x hx n h0 h1
      have h_0 : n = n + ((0 : Nat) : Int) := by omega
      have h_1 : w64 (n + 1) = n + ((0 + 1 : Nat) : Int) := by rw [h_0]; exact (wrap_ok (by omega) (by omega)).trans (by omega)
      exact ⟨_, rfl, by rw [h_1]; try omega⟩)
  refine ⟨ys, ?_, ?_⟩
  · rw [← hN1, ← hR1, ← hR0]
    refine markC_of (Γ := lookT tbl) (il := ilist) tg drD Try.func63 rfl (by kernel_rfl) rfl (Nat.le_of_ble_eq_true rfl) (Nat.le_of_ble_eq_true rfl) rfl ?_
    conv => whnf
    refine loop_i (fun k : Nat => ⟨envL [(0, .c (.row 0)), (1, .c (.pv (.int .i64 (N k)))), (5, .c (.pv (.int .i64 k)))], resL [(0, .row true 1 (R k))], 64, 21⟩) (fun k => k ≤ l.length) (fun k => l.length - k) 0 (Nat.zero_le _) (le_mkD rfl ⟨⟨rfl, rfl⟩, ⟨i64_eq hN0.symm, rfl⟩, ⟨rfl, rfl⟩, trivial⟩ ⟨⟨rfl, rfl⟩, trivial⟩ rfl rfl) ?_
    intro k hk
    conv => whnf
    refine br_i (fun h => ?_) (fun h => ?_)
    · have hlt : k < l.length := by simpa [hRl k hk] using h
      obtain ⟨hNs, hn0, hn1, el, ⟨rfl, hfin⟩, hy, hget, hset⟩ := hst k hlt
      have hlm : k < (R k).length := by rw [hRl k hk]; exact hlt
      conv => whnf
      refine And.intro (by decide) ?_
      conv => whnf
      refine ⟨k, ⟨⟨rfl, hlm⟩, rfl⟩, ?_⟩
      conv => whnf
      refine ⟨(R k).set k [.bool (Int.tmod (N k) 3 == 0)], ⟨rfl, hlm, by decide, st0 hget rfl⟩, ?_⟩
      conv => whnf
      exact ⟨k + 1, ⟨hlt, by omega⟩, le_mkD rfl ⟨⟨rfl, rfl⟩, ⟨i64_eq (hfin.trans hNs.symm), rfl⟩, ⟨ctr (by omega), rfl⟩, trivial⟩ ⟨⟨row_eq hset, rfl⟩, trivial⟩ rfl rfl⟩
    · have hk2 : k = l.length := by simp [hRl k hk] at h; omega
      subst hk2
      conv => whnf
      exact ⟨rfl, ⟨_, _, rfl, rfl⟩, trivial⟩
  · rw [← hN1]
    refine pureC_of (Γ := lookT tbl) (il := ilist) tg dr Try.func65 rfl (by kernel_rfl) rfl (Nat.le_of_ble_eq_true rfl) ?_
    conv => whnf
    refine loop_i (fun k : Nat => ⟨envL [(0, .c (.pv (.sl 1 ys))), (1, .c (.pv (.int .i64 (N k)))), (5, .c (.pv (.int .i64 k)))], resL [], 0, 23⟩) (fun k => k ≤ l.length) (fun k => l.length - k) 0 (Nat.zero_le _) (le_mk [] rfl ⟨⟨rfl, rfl⟩, ⟨i64_eq hN0.symm, rfl⟩, ⟨rfl, rfl⟩, trivial⟩ trivial rfl) ?_
    intro k hk
    conv => whnf
    refine br_i (fun h => ?_) (fun h => ?_)
    · have hlt : k < l.length := by simpa [hyl] using h
      obtain ⟨hNs, hn0, hn1, el, ⟨rfl, hfin⟩, hy, hget, hset⟩ := hst k hlt
      have hix : (0 ≤ (k : Int) ∧ ys[(k : Int).toNat]? = some [.bool (Int.tmod (N k) 3 == 0)]) ∧ 1 = 1 := ⟨⟨by omega, hy⟩, rfl⟩
      conv => whnf
      refine ⟨_, hix, ?_⟩
      conv => whnf
      refine And.intro (by decide) ?_
      conv => whnf
      refine br_i (fun h => absurd h (by simp)) (fun h => ?_)
      conv => whnf
      exact ⟨k + 1, ⟨hlt, by omega⟩, le_mk [] rfl ⟨⟨rfl, rfl⟩, ⟨i64_eq (hfin.trans hNs.symm), rfl⟩, ⟨ctr (by omega), rfl⟩, trivial⟩ trivial rfl⟩
    · have hk2 : k = l.length := by simp [hyl] at h; omega
      subst hk2
      conv => whnf
      exact leaf_i rfl rfl rfl
def XCall.mc (x : XCall) : Nat := 7 + x.Req.Words.length + x.Req.Bits.length
theorem mkCallS (l : List XCall) : MkS Try.prog 45 47 9 (l.map XCall.ps) (sumF XCall.mc l) := by
  intro n h0 h1
  obtain ⟨N, ys, R, hlen, hN0, hN1, hyl, hR0, hR1, hRl, hst⟩ := chain XCall.ps XCall.mc (fun x n el => ∃ (q1 : List (List PV)) (m1 : Int) (q2 : List (List PV)) (m2 : Int), el = [.int .i64 (n), .int .i64 (w64 (n + 1)), .int .i64 (w64 (w64 (n + 1) + 1)), .int .i64 (w64 (w64 (w64 (n + 1) + 1) + 1)), .int .i64 (w64 (w64 (w64 (w64 (n + 1) + 1) + 1) + 1)), .int .i64 (w64 (w64 (w64 (w64 (w64 (n + 1) + 1) + 1) + 1) + 1)), .sl 1 q1, .sl 1 q2, .int .i64 (m2)] ∧ MarkC Try.prog 62 (.one (.sl 1 (x.Req.Words.map intEl))) (w64 (w64 (w64 (w64 (w64 (w64 (n + 1) + 1) + 1) + 1) + 1) + 1)) (.one (.sl 1 q1)) m1 ∧ PureC Try.prog 64 [.one (.sl 1 q1), i64v (w64 (w64 (w64 (w64 (w64 (w64 (n + 1) + 1) + 1) + 1) + 1) + 1))] [i64v m1] ∧ 0 ≤ m1 ∧ MarkC Try.prog 63 (.one (.sl 1 (x.Req.Bits.map boolEl))) (m1) (.one (.sl 1 q2)) m2 ∧ PureC Try.prog 65 [.one (.sl 1 q2), i64v (m1)] [i64v m2] ∧ 0 ≤ m2 ∧ w64 (m2 + 1) = n + (XCall.mc x : Nat)) l n h0 h1 (by intro x; simp [XCall.mc]; try omega) (by
      intro x hx n h0 h1
      unfold XCall.mc at h1 ⊢
      have h_0 : n = n + ((0 : Nat) : Int) := by omega
      have h_1 : w64 (n + 1) = n + ((0 + 1 : Nat) : Int) := by rw [h_0]; exact (wrap_ok (by omega) (by omega)).trans (by omega)
      have h_2 : w64 (w64 (n + 1) + 1) = n + ((0 + 1 + 1 : Nat) : Int) := by rw [h_1]; exact (wrap_ok (by omega) (by omega)).trans (by omega)
      have h_3 : w64 (w64 (w64 (n + 1) + 1) + 1) = n + ((0 + 1 + 1 + 1 : Nat) : Int) := by rw [h_2]; exact (wrap_ok (by omega) (by omega)).trans (by omega)
      have h_4 : w64 (w64 (w64 (w64 (n + 1) + 1) + 1) + 1) = n + ((0 + 1 + 1 + 1 + 1 : Nat) : Int) := by rw [h_3]; exact (wrap_ok (by omega) (by omega)).trans (by omega)
      have h_5 : w64 (w64 (w64 (w64 (w64 (n + 1) + 1) + 1) + 1) + 1) = n + ((0 + 1 + 1 + 1 + 1 + 1 : Nat) : Int) := by rw [h_4]; exact (wrap_ok (by omega) (by omega)).trans (by omega)
      have h_6 : w64 (w64 (w64 (w64 (w64 (w64 (n + 1) + 1) + 1) + 1) + 1) + 1) = n + ((0 + 1 + 1 + 1 + 1 + 1 + 1 : Nat) : Int) := by rw [h_5]; exact (wrap_ok (by omega) (by omega)).trans (by omega)
      obtain ⟨q1, M1, H1⟩ := mkIntS x.Req.Words (w64 (w64 (w64 (w64 (w64 (w64 (n + 1) + 1) + 1) + 1) + 1) + 1)) (by rw [h_6]; omega) (by rw [h_6]; omega)
      generalize hc1 : (w64 (w64 (w64 (w64 (w64 (w64 (n + 1) + 1) + 1) + 1) + 1) + 1)) + _ = c1 at M1 H1
      have h_7 : c1 = n + ((0 + 1 + 1 + 1 + 1 + 1 + 1 + x.Req.Words.length : Nat) : Int) := by rw [← hc1, h_6]; push_cast; omega
      obtain ⟨q2, M2, H2⟩ := mkBoolS x.Req.Bits (c1) (by rw [h_7]; omega) (by rw [h_7]; omega)
      generalize hc2 : (c1) + _ = c2 at M2 H2
      have h_8 : c2 = n + ((0 + 1 + 1 + 1 + 1 + 1 + 1 + x.Req.Words.length + x.Req.Bits.length : Nat) : Int) := by rw [← hc2, h_7]; push_cast; omega
      have h_9 : w64 (c2 + 1) = n + ((0 + 1 + 1 + 1 + 1 + 1 + 1 + x.Req.Words.length + x.Req.Bits.length + 1 : Nat) : Int) := by rw [h_8]; exact (wrap_ok (by omega) (by omega)).trans (by omega)
      exact ⟨_, q1, c1, q2, c2, rfl, M1, H1, by omega, M2, H2, by omega, by rw [h_9]; try omega⟩)
  refine ⟨ys, ?_, ?_⟩
  · rw [← hN1, ← hR1, ← hR0]
    refine markC_of (Γ := lookT tbl) (il := ilist) tg drD Try.func45 rfl (by kernel_rfl) rfl (Nat.le_of_ble_eq_true rfl) (Nat.le_of_ble_eq_true rfl) rfl ?_
    conv => whnf
    refine loop_i (fun k : Nat => ⟨envL [(0, .c (.row 0)), (1, .c (.pv (.int .i64 (N k)))), (5, .c (.pv (.int .i64 k)))], resL [(0, .row true 9 (R k))], 64, 82⟩) (fun k => k ≤ l.length) (fun k => l.length - k) 0 (Nat.zero_le _) (le_mkD rfl ⟨⟨rfl, rfl⟩, ⟨i64_eq hN0.symm, rfl⟩, ⟨rfl, rfl⟩, trivial⟩ ⟨⟨rfl, rfl⟩, trivial⟩ rfl rfl) ?_
    intro k hk
    conv => whnf
    refine br_i (fun h => ?_) (fun h => ?_)
    · have hlt : k < l.length := by simpa [hRl k hk] using h
      obtain ⟨hNs, hn0, hn1, el, ⟨q1, m1, q2, m2, rfl, M1, H1, P1, M2, H2, P2, hfin⟩, hy, hget, hset⟩ := hst k hlt
      have hlm : k < (R k).length := by rw [hRl k hk]; exact hlt
      conv => whnf
      refine ⟨k, ⟨⟨rfl, hlm⟩, rfl⟩, ?_⟩
      conv => whnf
      refine ⟨(R k).set k [.int .i64 (N k), .int .i64 l[k].Part, .int .i64 l[k].Unit, .int .i64 l[k].Req.Kind, .int .i64 l[k].Req.At, .int .i64 l[k].Req.N, intsP l[k].Req.Words, boolsP l[k].Req.Bits, .int .i64 l[k].Req.WAt], ⟨rfl, hlm, by decide, st0 hget rfl⟩, ?_⟩
      conv => whnf
      refine ⟨k, ⟨⟨rfl, ln1 hlm⟩, rfl⟩, ?_⟩
      conv => whnf
      refine ⟨(R k).set k [.int .i64 (N k), .int .i64 (w64 (N k + 1)), .int .i64 l[k].Unit, .int .i64 l[k].Req.Kind, .int .i64 l[k].Req.At, .int .i64 l[k].Req.N, intsP l[k].Req.Words, boolsP l[k].Req.Bits, .int .i64 l[k].Req.WAt], ⟨rfl, ln1 hlm, by decide, st1 hlm rfl⟩, ?_⟩
      conv => whnf
      refine ⟨k, ⟨⟨rfl, ln1 hlm⟩, rfl⟩, ?_⟩
      conv => whnf
      refine ⟨(R k).set k [.int .i64 (N k), .int .i64 (w64 (N k + 1)), .int .i64 (w64 (w64 (N k + 1) + 1)), .int .i64 l[k].Req.Kind, .int .i64 l[k].Req.At, .int .i64 l[k].Req.N, intsP l[k].Req.Words, boolsP l[k].Req.Bits, .int .i64 l[k].Req.WAt], ⟨rfl, ln1 hlm, by decide, st1 hlm rfl⟩, ?_⟩
      conv => whnf
      refine ⟨k, ⟨⟨rfl, ln1 hlm⟩, rfl⟩, ?_⟩
      conv => whnf
      refine ⟨(R k).set k [.int .i64 (N k), .int .i64 (w64 (N k + 1)), .int .i64 (w64 (w64 (N k + 1) + 1)), .int .i64 (w64 (w64 (w64 (N k + 1) + 1) + 1)), .int .i64 l[k].Req.At, .int .i64 l[k].Req.N, intsP l[k].Req.Words, boolsP l[k].Req.Bits, .int .i64 l[k].Req.WAt], ⟨rfl, ln1 hlm, by decide, st1 hlm rfl⟩, ?_⟩
      conv => whnf
      refine ⟨k, ⟨⟨rfl, ln1 hlm⟩, rfl⟩, ?_⟩
      conv => whnf
      refine ⟨(R k).set k [.int .i64 (N k), .int .i64 (w64 (N k + 1)), .int .i64 (w64 (w64 (N k + 1) + 1)), .int .i64 (w64 (w64 (w64 (N k + 1) + 1) + 1)), .int .i64 (w64 (w64 (w64 (w64 (N k + 1) + 1) + 1) + 1)), .int .i64 l[k].Req.N, intsP l[k].Req.Words, boolsP l[k].Req.Bits, .int .i64 l[k].Req.WAt], ⟨rfl, ln1 hlm, by decide, st1 hlm rfl⟩, ?_⟩
      conv => whnf
      refine ⟨k, ⟨⟨rfl, ln1 hlm⟩, rfl⟩, ?_⟩
      conv => whnf
      refine ⟨(R k).set k [.int .i64 (N k), .int .i64 (w64 (N k + 1)), .int .i64 (w64 (w64 (N k + 1) + 1)), .int .i64 (w64 (w64 (w64 (N k + 1) + 1) + 1)), .int .i64 (w64 (w64 (w64 (w64 (N k + 1) + 1) + 1) + 1)), .int .i64 (w64 (w64 (w64 (w64 (w64 (N k + 1) + 1) + 1) + 1) + 1)), intsP l[k].Req.Words, boolsP l[k].Req.Bits, .int .i64 l[k].Req.WAt], ⟨rfl, ln1 hlm, by decide, st1 hlm rfl⟩, ?_⟩
      conv => whnf
      refine ⟨k, ⟨⟨rfl, ln1 hlm⟩, rfl⟩, ?_⟩
      conv => whnf
      refine ⟨_, _, q1, m1, (R k).set k [.int .i64 (N k), .int .i64 (w64 (N k + 1)), .int .i64 (w64 (w64 (N k + 1) + 1)), .int .i64 (w64 (w64 (w64 (N k + 1) + 1) + 1)), .int .i64 (w64 (w64 (w64 (w64 (N k + 1) + 1) + 1) + 1)), .int .i64 (w64 (w64 (w64 (w64 (w64 (N k + 1) + 1) + 1) + 1) + 1)), .sl 1 q1, boolsP l[k].Req.Bits, .int .i64 l[k].Req.WAt], ⟨⟨⟨rfl, at1 hlm rfl⟩, M1⟩, st1 hlm rfl⟩, ?_⟩
      conv => whnf
      refine ⟨k, ⟨⟨rfl, ln1 hlm⟩, rfl⟩, ?_⟩
      conv => whnf
      refine ⟨_, _, q2, m2, (R k).set k [.int .i64 (N k), .int .i64 (w64 (N k + 1)), .int .i64 (w64 (w64 (N k + 1) + 1)), .int .i64 (w64 (w64 (w64 (N k + 1) + 1) + 1)), .int .i64 (w64 (w64 (w64 (w64 (N k + 1) + 1) + 1) + 1)), .int .i64 (w64 (w64 (w64 (w64 (w64 (N k + 1) + 1) + 1) + 1) + 1)), .sl 1 q1, .sl 1 q2, .int .i64 l[k].Req.WAt], ⟨⟨⟨rfl, at1 hlm rfl⟩, M2⟩, st1 hlm rfl⟩, ?_⟩
      conv => whnf
      refine ⟨k, ⟨⟨rfl, ln1 hlm⟩, rfl⟩, ?_⟩
      conv => whnf
      refine ⟨(R k).set k [.int .i64 (N k), .int .i64 (w64 (N k + 1)), .int .i64 (w64 (w64 (N k + 1) + 1)), .int .i64 (w64 (w64 (w64 (N k + 1) + 1) + 1)), .int .i64 (w64 (w64 (w64 (w64 (N k + 1) + 1) + 1) + 1)), .int .i64 (w64 (w64 (w64 (w64 (w64 (N k + 1) + 1) + 1) + 1) + 1)), .sl 1 q1, .sl 1 q2, .int .i64 (m2)], ⟨rfl, ln1 hlm, by decide, st1 hlm rfl⟩, ?_⟩
      conv => whnf
      exact ⟨k + 1, ⟨hlt, by omega⟩, le_mkD rfl ⟨⟨rfl, rfl⟩, ⟨i64_eq (hfin.trans hNs.symm), rfl⟩, ⟨ctr (by omega), rfl⟩, trivial⟩ ⟨⟨row_eq hset, rfl⟩, trivial⟩ rfl rfl⟩
    · have hk2 : k = l.length := by simp [hRl k hk] at h; omega
      subst hk2
      conv => whnf
      exact ⟨rfl, ⟨_, _, rfl, rfl⟩, trivial⟩
  · rw [← hN1]
    refine pureC_of (Γ := lookT tbl) (il := ilist) tg dr Try.func47 rfl (by kernel_rfl) rfl (Nat.le_of_ble_eq_true rfl) ?_
    conv => whnf
    refine loop_i (fun k : Nat => ⟨envL [(0, .c (.pv (.sl 9 ys))), (1, .c (.pv (.int .i64 (N k)))), (5, .c (.pv (.int .i64 k)))], resL [], 0, 100⟩) (fun k => k ≤ l.length) (fun k => l.length - k) 0 (Nat.zero_le _) (le_mk [] rfl ⟨⟨rfl, rfl⟩, ⟨i64_eq hN0.symm, rfl⟩, ⟨rfl, rfl⟩, trivial⟩ trivial rfl) ?_
    intro k hk
    conv => whnf
    refine br_i (fun h => ?_) (fun h => ?_)
    · have hlt : k < l.length := by simpa [hyl] using h
      obtain ⟨hNs, hn0, hn1, el, ⟨q1, m1, q2, m2, rfl, M1, H1, P1, M2, H2, P2, hfin⟩, hy, hget, hset⟩ := hst k hlt
      have hix : (0 ≤ (k : Int) ∧ ys[(k : Int).toNat]? = some [.int .i64 (N k), .int .i64 (w64 (N k + 1)), .int .i64 (w64 (w64 (N k + 1) + 1)), .int .i64 (w64 (w64 (w64 (N k + 1) + 1) + 1)), .int .i64 (w64 (w64 (w64 (w64 (N k + 1) + 1) + 1) + 1)), .int .i64 (w64 (w64 (w64 (w64 (w64 (N k + 1) + 1) + 1) + 1) + 1)), .sl 1 q1, .sl 1 q2, .int .i64 (m2)]) ∧ 9 = 9 := ⟨⟨by omega, hy⟩, rfl⟩
      conv => whnf
      refine ⟨_, hix, ?_⟩
      conv => whnf
      refine br_i (fun h => absurd h (by simp)) (fun h => ?_)
      conv => whnf
      refine ⟨_, hix, ?_⟩
      conv => whnf
      refine br_i (fun h => absurd h (by simp)) (fun h => ?_)
      conv => whnf
      refine ⟨_, hix, ?_⟩
      conv => whnf
      refine br_i (fun h => absurd h (by simp)) (fun h => ?_)
      conv => whnf
      refine ⟨_, hix, ?_⟩
      conv => whnf
      refine br_i (fun h => absurd h (by simp)) (fun h => ?_)
      conv => whnf
      refine ⟨_, hix, ?_⟩
      conv => whnf
      refine br_i (fun h => absurd h (by simp)) (fun h => ?_)
      conv => whnf
      refine ⟨_, hix, ?_⟩
      conv => whnf
      refine br_i (fun h => absurd h (by simp)) (fun h => ?_)
      conv => whnf
      refine ⟨_, hix, ?_⟩
      conv => whnf
      refine call_i H1 ?_
      conv => whnf
      refine br_i (fun h => absurd (dlt h) (by omega)) (fun h => ?_)
      conv => whnf
      refine ⟨_, hix, ?_⟩
      conv => whnf
      refine call_i H2 ?_
      conv => whnf
      refine br_i (fun h => absurd (dlt h) (by omega)) (fun h => ?_)
      conv => whnf
      refine ⟨_, hix, ?_⟩
      conv => whnf
      refine br_i (fun h => absurd h (by simp)) (fun h => ?_)
      conv => whnf
      exact ⟨k + 1, ⟨hlt, by omega⟩, le_mk [] rfl ⟨⟨rfl, rfl⟩, ⟨i64_eq (hfin.trans hNs.symm), rfl⟩, ⟨ctr (by omega), rfl⟩, trivial⟩ trivial rfl⟩
    · have hk2 : k = l.length := by simp [hyl] at h; omega
      subst hk2
      conv => whnf
      exact leaf_i rfl rfl rfl
def XReq.sc (x : XReq) : Nat := 0 + x.Words.length + x.Bits.length
theorem mkReq (x : XReq) (n : Int) (h0 : 0 ≤ n) (h1 : n + x.sc ≤ 4611686018427387904) : ∃ (q1 q2 : List (List PV)), MarkC Try.prog 46 x.v n (.agg [.int .i64 x.Kind, .int .i64 x.At, .int .i64 x.N, .sl 1 q1, .sl 1 q2, .int .i64 x.WAt]) (n + x.sc) ∧ PureC Try.prog 86 [.agg [.int .i64 x.Kind, .int .i64 x.At, .int .i64 x.N, .sl 1 q1, .sl 1 q2, .int .i64 x.WAt], i64v n] [i64v (n + x.sc)] := by
  unfold XReq.sc at *
  have h_0 : n = n + ((0 : Nat) : Int) := by omega
  obtain ⟨q1, M1, H1⟩ := mkIntS x.Words (n) (by rw [h_0]; omega) (by rw [h_0]; omega)
  generalize hc1 : (n) + ((_ : Nat) : Int) = c1 at M1 H1
  have h_1 : c1 = n + ((0 + x.Words.length : Nat) : Int) := by rw [← hc1, h_0]; push_cast; omega
  obtain ⟨q2, M2, H2⟩ := mkBoolS x.Bits (c1) (by rw [h_1]; omega) (by rw [h_1]; omega)
  generalize hc2 : (c1) + ((_ : Nat) : Int) = c2 at M2 H2
  have h_2 : c2 = n + ((0 + x.Words.length + x.Bits.length : Nat) : Int) := by rw [← hc2, h_1]; push_cast; omega
  have hfin : c2 = n + ((0 + x.Words.length + x.Bits.length : Nat) : Int) := by rw [h_2]; try omega
  refine ⟨q1, q2, ?_, ?_⟩
  · refine markC_of (Γ := lookT tbl) (il := ilist) tg drD Try.func46 rfl (by kernel_rfl) rfl (Nat.le_of_ble_eq_true rfl) (Nat.le_of_ble_eq_true rfl) rfl ?_
    conv => whnf
    refine mark_i M1 rfl ?_
    conv => whnf
    refine mark_i M2 rfl ?_
    conv => whnf
    exact ⟨i64s_eq hfin, rfl, rfl, rfl, ⟨_, _, rfl, rfl⟩, ⟨_, _, rfl, rfl⟩, rfl, trivial⟩
  · refine pureC_of (Γ := lookT tbl) (il := ilist) tg dr Try.func86 rfl (by kernel_rfl) rfl (Nat.le_of_ble_eq_true rfl) ?_
    conv => whnf
    refine call_i H1 ?_
    conv => whnf
    refine br_i (fun h => absurd (dlt h) (by omega)) (fun h => ?_)
    conv => whnf
    refine call_i H2 ?_
    conv => whnf
    refine br_i (fun h => absurd (dlt h) (by omega)) (fun h => ?_)
    conv => whnf
    exact leaf_i rfl rfl (i64l_eq hfin)
def XCall.sc (x : XCall) : Nat := 0 + x.Req.Words.length + x.Req.Bits.length
theorem mkCall (x : XCall) (n : Int) (h0 : 0 ≤ n) (h1 : n + x.sc ≤ 4611686018427387904) : ∃ (q1 q2 : List (List PV)), MarkC Try.prog 15 x.v n (.agg [.int .i64 x.Id, .int .i64 x.Part, .int .i64 x.Unit, .int .i64 x.Req.Kind, .int .i64 x.Req.At, .int .i64 x.Req.N, .sl 1 q1, .sl 1 q2, .int .i64 x.Req.WAt]) (n + x.sc) ∧ PureC Try.prog 48 [.agg [.int .i64 x.Id, .int .i64 x.Part, .int .i64 x.Unit, .int .i64 x.Req.Kind, .int .i64 x.Req.At, .int .i64 x.Req.N, .sl 1 q1, .sl 1 q2, .int .i64 x.Req.WAt], i64v n] [i64v (n + x.sc)] := by
  unfold XCall.sc at *
  have h_0 : n = n + ((0 : Nat) : Int) := by omega
  obtain ⟨q1, q2, M1, H1⟩ := mkReq x.Req (n) (by rw [h_0]; omega) (by rw [h_0]; unfold XReq.sc; omega)
  generalize hc1 : (n) + ((_ : Nat) : Int) = c1 at M1 H1
  have h_1 : c1 = n + ((0 + (0 + x.Req.Words.length + x.Req.Bits.length) : Nat) : Int) := by rw [← hc1, h_0]; unfold XReq.sc; push_cast; omega
  have hfin : c1 = n + ((0 + x.Req.Words.length + x.Req.Bits.length : Nat) : Int) := by rw [h_1]; try omega
  refine ⟨q1, q2, ?_, ?_⟩
  · refine markC_of (Γ := lookT tbl) (il := ilist) tg drD Try.func15 rfl (by kernel_rfl) rfl (Nat.le_of_ble_eq_true rfl) (Nat.le_of_ble_eq_true rfl) rfl ?_
    conv => whnf
    refine mark_i M1 rfl ?_
    conv => whnf
    exact ⟨i64s_eq hfin, rfl, rfl, rfl, rfl, rfl, rfl, ⟨_, _, rfl, rfl⟩, ⟨_, _, rfl, rfl⟩, rfl, trivial⟩
  · refine pureC_of (Γ := lookT tbl) (il := ilist) tg dr Try.func48 rfl (by kernel_rfl) rfl (Nat.le_of_ble_eq_true rfl) ?_
    conv => whnf
    refine call_i H1 ?_
    conv => whnf
    refine br_i (fun h => absurd (dlt h) (by omega)) (fun h => ?_)
    conv => whnf
    exact leaf_i rfl rfl (i64l_eq hfin)
def XLine.sc (x : XLine) : Nat := 0 + sumF XCall.mc x.Queue + x.Call.Req.Words.length + x.Call.Req.Bits.length
theorem mkLine (x : XLine) (n : Int) (h0 : 0 ≤ n) (h1 : n + x.sc ≤ 4611686018427387904) : ∃ (q1 q2 q3 : List (List PV)), MarkC Try.prog 14 x.v n (.agg [.sl 9 q1, .bool x.Busy, .int .i64 x.Call.Id, .int .i64 x.Call.Part, .int .i64 x.Call.Unit, .int .i64 x.Call.Req.Kind, .int .i64 x.Call.Req.At, .int .i64 x.Call.Req.N, .sl 1 q2, .sl 1 q3, .int .i64 x.Call.Req.WAt, .int .i64 x.Number, .int .i64 x.Due, .int .i64 x.Left, .int .i64 x.Next, .int .i64 x.Wait, .int .i64 x.Tries]) (n + x.sc) ∧ PureC Try.prog 16 [.agg [.sl 9 q1, .bool x.Busy, .int .i64 x.Call.Id, .int .i64 x.Call.Part, .int .i64 x.Call.Unit, .int .i64 x.Call.Req.Kind, .int .i64 x.Call.Req.At, .int .i64 x.Call.Req.N, .sl 1 q2, .sl 1 q3, .int .i64 x.Call.Req.WAt, .int .i64 x.Number, .int .i64 x.Due, .int .i64 x.Left, .int .i64 x.Next, .int .i64 x.Wait, .int .i64 x.Tries], i64v n] [i64v (n + x.sc)] := by
  unfold XLine.sc at *
  have h_0 : n = n + ((0 : Nat) : Int) := by omega
  obtain ⟨q1, M1, H1⟩ := mkCallS x.Queue (n) (by rw [h_0]; omega) (by rw [h_0]; omega)
  generalize hc1 : (n) + ((_ : Nat) : Int) = c1 at M1 H1
  have h_1 : c1 = n + ((0 + sumF XCall.mc x.Queue : Nat) : Int) := by rw [← hc1, h_0]; push_cast; omega
  obtain ⟨q2, q3, M2, H2⟩ := mkCall x.Call (c1) (by rw [h_1]; omega) (by rw [h_1]; unfold XCall.sc; omega)
  generalize hc2 : (c1) + ((_ : Nat) : Int) = c2 at M2 H2
  have h_2 : c2 = n + ((0 + sumF XCall.mc x.Queue + (0 + x.Call.Req.Words.length + x.Call.Req.Bits.length) : Nat) : Int) := by rw [← hc2, h_1]; unfold XCall.sc; push_cast; omega
  have hfin : c2 = n + ((0 + sumF XCall.mc x.Queue + x.Call.Req.Words.length + x.Call.Req.Bits.length : Nat) : Int) := by rw [h_2]; try omega
  refine ⟨q1, q2, q3, ?_, ?_⟩
  · refine markC_of (Γ := lookT tbl) (il := ilist) tg drD Try.func14 rfl (by kernel_rfl) rfl (Nat.le_of_ble_eq_true rfl) (Nat.le_of_ble_eq_true rfl) rfl ?_
    conv => whnf
    refine mark_i M1 rfl ?_
    conv => whnf
    refine mark_i M2 rfl ?_
    conv => whnf
    exact ⟨i64s_eq hfin, ⟨_, _, rfl, rfl⟩, rfl, rfl, rfl, rfl, rfl, rfl, rfl, ⟨_, _, rfl, rfl⟩, ⟨_, _, rfl, rfl⟩, rfl, rfl, rfl, rfl, rfl, rfl, rfl, trivial⟩
  · refine pureC_of (Γ := lookT tbl) (il := ilist) tg dr Try.func16 rfl (by kernel_rfl) rfl (Nat.le_of_ble_eq_true rfl) ?_
    conv => whnf
    refine call_i H1 ?_
    conv => whnf
    refine br_i (fun h => absurd (dlt h) (by omega)) (fun h => ?_)
    conv => whnf
    refine call_i H2 ?_
    conv => whnf
    refine br_i (fun h => absurd (dlt h) (by omega)) (fun h => ?_)
    conv => whnf
    exact leaf_i rfl rfl (i64l_eq hfin)
def XResp.sc (x : XResp) : Nat := 0 + x.Words.length + x.Bits.length
theorem mkResp (x : XResp) (n : Int) (h0 : 0 ≤ n) (h1 : n + x.sc ≤ 4611686018427387904) : ∃ (q1 q2 : List (List PV)), MarkC Try.prog 23 x.v n (.agg [.int .i64 x.Kind, .int .i64 x.Fault, .int .i64 x.At, .int .i64 x.N, .sl 1 q1, .sl 1 q2]) (n + x.sc) := by
  unfold XResp.sc at *
  have h_0 : n = n + ((0 : Nat) : Int) := by omega
  obtain ⟨q1, M1, H1⟩ := mkIntS x.Words (n) (by rw [h_0]; omega) (by rw [h_0]; omega)
  generalize hc1 : (n) + ((_ : Nat) : Int) = c1 at M1 H1
  have h_1 : c1 = n + ((0 + x.Words.length : Nat) : Int) := by rw [← hc1, h_0]; push_cast; omega
  obtain ⟨q2, M2, H2⟩ := mkBoolS x.Bits (c1) (by rw [h_1]; omega) (by rw [h_1]; omega)
  generalize hc2 : (c1) + ((_ : Nat) : Int) = c2 at M2 H2
  have h_2 : c2 = n + ((0 + x.Words.length + x.Bits.length : Nat) : Int) := by rw [← hc2, h_1]; push_cast; omega
  have hfin : c2 = n + ((0 + x.Words.length + x.Bits.length : Nat) : Int) := by rw [h_2]; try omega
  refine ⟨q1, q2, ?_⟩
  · refine markC_of (Γ := lookT tbl) (il := ilist) tg drD Try.func23 rfl (by kernel_rfl) rfl (Nat.le_of_ble_eq_true rfl) (Nat.le_of_ble_eq_true rfl) rfl ?_
    conv => whnf
    refine mark_i M1 rfl ?_
    conv => whnf
    refine mark_i M2 rfl ?_
    conv => whnf
    exact ⟨i64s_eq hfin, rfl, rfl, rfl, rfl, ⟨_, _, rfl, rfl⟩, ⟨_, _, rfl, rfl⟩, trivial⟩
def XDone.mc (x : XDone) : Nat := 6 + x.Resp.Words.length + x.Resp.Bits.length
theorem mkDoneS (l : List XDone) : MkS Try.prog 24 25 8 (l.map XDone.ps) (sumF XDone.mc l) := by
  intro n h0 h1
  obtain ⟨N, ys, R, hlen, hN0, hN1, hyl, hR0, hR1, hRl, hst⟩ := chain XDone.ps XDone.mc (fun x n el => ∃ (q1 : List (List PV)) (m1 : Int) (q2 : List (List PV)) (m2 : Int), el = [.int .i64 (n), .int .i64 (w64 (n + 1)), .int .i64 (w64 (w64 (n + 1) + 1)), .int .i64 (w64 (w64 (w64 (n + 1) + 1) + 1)), .int .i64 (w64 (w64 (w64 (w64 (n + 1) + 1) + 1) + 1)), .int .i64 (w64 (w64 (w64 (w64 (w64 (n + 1) + 1) + 1) + 1) + 1)), .sl 1 q1, .sl 1 q2] ∧ MarkC Try.prog 62 (.one (.sl 1 (x.Resp.Words.map intEl))) (w64 (w64 (w64 (w64 (w64 (w64 (n + 1) + 1) + 1) + 1) + 1) + 1)) (.one (.sl 1 q1)) m1 ∧ PureC Try.prog 64 [.one (.sl 1 q1), i64v (w64 (w64 (w64 (w64 (w64 (w64 (n + 1) + 1) + 1) + 1) + 1) + 1))] [i64v m1] ∧ 0 ≤ m1 ∧ MarkC Try.prog 63 (.one (.sl 1 (x.Resp.Bits.map boolEl))) (m1) (.one (.sl 1 q2)) m2 ∧ PureC Try.prog 65 [.one (.sl 1 q2), i64v (m1)] [i64v m2] ∧ 0 ≤ m2 ∧ m2 = n + (XDone.mc x : Nat)) l n h0 h1 (by intro x; simp [XDone.mc]; try omega) (by
      intro x hx n h0 h1
      unfold XDone.mc at h1 ⊢
      have h_0 : n = n + ((0 : Nat) : Int) := by omega
      have h_1 : w64 (n + 1) = n + ((0 + 1 : Nat) : Int) := by rw [h_0]; exact (wrap_ok (by omega) (by omega)).trans (by omega)
      have h_2 : w64 (w64 (n + 1) + 1) = n + ((0 + 1 + 1 : Nat) : Int) := by rw [h_1]; exact (wrap_ok (by omega) (by omega)).trans (by omega)
      have h_3 : w64 (w64 (w64 (n + 1) + 1) + 1) = n + ((0 + 1 + 1 + 1 : Nat) : Int) := by rw [h_2]; exact (wrap_ok (by omega) (by omega)).trans (by omega)
      have h_4 : w64 (w64 (w64 (w64 (n + 1) + 1) + 1) + 1) = n + ((0 + 1 + 1 + 1 + 1 : Nat) : Int) := by rw [h_3]; exact (wrap_ok (by omega) (by omega)).trans (by omega)
      have h_5 : w64 (w64 (w64 (w64 (w64 (n + 1) + 1) + 1) + 1) + 1) = n + ((0 + 1 + 1 + 1 + 1 + 1 : Nat) : Int) := by rw [h_4]; exact (wrap_ok (by omega) (by omega)).trans (by omega)
      have h_6 : w64 (w64 (w64 (w64 (w64 (w64 (n + 1) + 1) + 1) + 1) + 1) + 1) = n + ((0 + 1 + 1 + 1 + 1 + 1 + 1 : Nat) : Int) := by rw [h_5]; exact (wrap_ok (by omega) (by omega)).trans (by omega)
      obtain ⟨q1, M1, H1⟩ := mkIntS x.Resp.Words (w64 (w64 (w64 (w64 (w64 (w64 (n + 1) + 1) + 1) + 1) + 1) + 1)) (by rw [h_6]; omega) (by rw [h_6]; omega)
      generalize hc1 : (w64 (w64 (w64 (w64 (w64 (w64 (n + 1) + 1) + 1) + 1) + 1) + 1)) + _ = c1 at M1 H1
      have h_7 : c1 = n + ((0 + 1 + 1 + 1 + 1 + 1 + 1 + x.Resp.Words.length : Nat) : Int) := by rw [← hc1, h_6]; push_cast; omega
      obtain ⟨q2, M2, H2⟩ := mkBoolS x.Resp.Bits (c1) (by rw [h_7]; omega) (by rw [h_7]; omega)
      generalize hc2 : (c1) + _ = c2 at M2 H2
      have h_8 : c2 = n + ((0 + 1 + 1 + 1 + 1 + 1 + 1 + x.Resp.Words.length + x.Resp.Bits.length : Nat) : Int) := by rw [← hc2, h_7]; push_cast; omega
      exact ⟨_, q1, c1, q2, c2, rfl, M1, H1, by omega, M2, H2, by omega, by rw [h_8]; try omega⟩)
  refine ⟨ys, ?_, ?_⟩
  · rw [← hN1, ← hR1, ← hR0]
    refine markC_of (Γ := lookT tbl) (il := ilist) tg drD Try.func24 rfl (by kernel_rfl) rfl (Nat.le_of_ble_eq_true rfl) (Nat.le_of_ble_eq_true rfl) rfl ?_
    conv => whnf
    refine loop_i (fun k : Nat => ⟨envL [(0, .c (.row 0)), (1, .c (.pv (.int .i64 (N k)))), (5, .c (.pv (.int .i64 k)))], resL [(0, .row true 8 (R k))], 64, 75⟩) (fun k => k ≤ l.length) (fun k => l.length - k) 0 (Nat.zero_le _) (le_mkD rfl ⟨⟨rfl, rfl⟩, ⟨i64_eq hN0.symm, rfl⟩, ⟨rfl, rfl⟩, trivial⟩ ⟨⟨rfl, rfl⟩, trivial⟩ rfl rfl) ?_
    intro k hk
    conv => whnf
    refine br_i (fun h => ?_) (fun h => ?_)
    · have hlt : k < l.length := by simpa [hRl k hk] using h
      obtain ⟨hNs, hn0, hn1, el, ⟨q1, m1, q2, m2, rfl, M1, H1, P1, M2, H2, P2, hfin⟩, hy, hget, hset⟩ := hst k hlt
      have hlm : k < (R k).length := by rw [hRl k hk]; exact hlt
      conv => whnf
      refine ⟨k, ⟨⟨rfl, hlm⟩, rfl⟩, ?_⟩
      conv => whnf
      refine ⟨(R k).set k [.int .i64 (N k), .int .i64 l[k].Part, .int .i64 l[k].Resp.Kind, .int .i64 l[k].Resp.Fault, .int .i64 l[k].Resp.At, .int .i64 l[k].Resp.N, intsP l[k].Resp.Words, boolsP l[k].Resp.Bits], ⟨rfl, hlm, by decide, st0 hget rfl⟩, ?_⟩
      conv => whnf
      refine ⟨k, ⟨⟨rfl, ln1 hlm⟩, rfl⟩, ?_⟩
      conv => whnf
      refine ⟨(R k).set k [.int .i64 (N k), .int .i64 (w64 (N k + 1)), .int .i64 l[k].Resp.Kind, .int .i64 l[k].Resp.Fault, .int .i64 l[k].Resp.At, .int .i64 l[k].Resp.N, intsP l[k].Resp.Words, boolsP l[k].Resp.Bits], ⟨rfl, ln1 hlm, by decide, st1 hlm rfl⟩, ?_⟩
      conv => whnf
      refine ⟨k, ⟨⟨rfl, ln1 hlm⟩, rfl⟩, ?_⟩
      conv => whnf
      refine ⟨(R k).set k [.int .i64 (N k), .int .i64 (w64 (N k + 1)), .int .i64 (w64 (w64 (N k + 1) + 1)), .int .i64 l[k].Resp.Fault, .int .i64 l[k].Resp.At, .int .i64 l[k].Resp.N, intsP l[k].Resp.Words, boolsP l[k].Resp.Bits], ⟨rfl, ln1 hlm, by decide, st1 hlm rfl⟩, ?_⟩
      conv => whnf
      refine ⟨k, ⟨⟨rfl, ln1 hlm⟩, rfl⟩, ?_⟩
      conv => whnf
      refine ⟨(R k).set k [.int .i64 (N k), .int .i64 (w64 (N k + 1)), .int .i64 (w64 (w64 (N k + 1) + 1)), .int .i64 (w64 (w64 (w64 (N k + 1) + 1) + 1)), .int .i64 l[k].Resp.At, .int .i64 l[k].Resp.N, intsP l[k].Resp.Words, boolsP l[k].Resp.Bits], ⟨rfl, ln1 hlm, by decide, st1 hlm rfl⟩, ?_⟩
      conv => whnf
      refine ⟨k, ⟨⟨rfl, ln1 hlm⟩, rfl⟩, ?_⟩
      conv => whnf
      refine ⟨(R k).set k [.int .i64 (N k), .int .i64 (w64 (N k + 1)), .int .i64 (w64 (w64 (N k + 1) + 1)), .int .i64 (w64 (w64 (w64 (N k + 1) + 1) + 1)), .int .i64 (w64 (w64 (w64 (w64 (N k + 1) + 1) + 1) + 1)), .int .i64 l[k].Resp.N, intsP l[k].Resp.Words, boolsP l[k].Resp.Bits], ⟨rfl, ln1 hlm, by decide, st1 hlm rfl⟩, ?_⟩
      conv => whnf
      refine ⟨k, ⟨⟨rfl, ln1 hlm⟩, rfl⟩, ?_⟩
      conv => whnf
      refine ⟨(R k).set k [.int .i64 (N k), .int .i64 (w64 (N k + 1)), .int .i64 (w64 (w64 (N k + 1) + 1)), .int .i64 (w64 (w64 (w64 (N k + 1) + 1) + 1)), .int .i64 (w64 (w64 (w64 (w64 (N k + 1) + 1) + 1) + 1)), .int .i64 (w64 (w64 (w64 (w64 (w64 (N k + 1) + 1) + 1) + 1) + 1)), intsP l[k].Resp.Words, boolsP l[k].Resp.Bits], ⟨rfl, ln1 hlm, by decide, st1 hlm rfl⟩, ?_⟩
      conv => whnf
      refine ⟨k, ⟨⟨rfl, ln1 hlm⟩, rfl⟩, ?_⟩
      conv => whnf
      refine ⟨_, _, q1, m1, (R k).set k [.int .i64 (N k), .int .i64 (w64 (N k + 1)), .int .i64 (w64 (w64 (N k + 1) + 1)), .int .i64 (w64 (w64 (w64 (N k + 1) + 1) + 1)), .int .i64 (w64 (w64 (w64 (w64 (N k + 1) + 1) + 1) + 1)), .int .i64 (w64 (w64 (w64 (w64 (w64 (N k + 1) + 1) + 1) + 1) + 1)), .sl 1 q1, boolsP l[k].Resp.Bits], ⟨⟨⟨rfl, at1 hlm rfl⟩, M1⟩, st1 hlm rfl⟩, ?_⟩
      conv => whnf
      refine ⟨k, ⟨⟨rfl, ln1 hlm⟩, rfl⟩, ?_⟩
      conv => whnf
      refine ⟨_, _, q2, m2, (R k).set k [.int .i64 (N k), .int .i64 (w64 (N k + 1)), .int .i64 (w64 (w64 (N k + 1) + 1)), .int .i64 (w64 (w64 (w64 (N k + 1) + 1) + 1)), .int .i64 (w64 (w64 (w64 (w64 (N k + 1) + 1) + 1) + 1)), .int .i64 (w64 (w64 (w64 (w64 (w64 (N k + 1) + 1) + 1) + 1) + 1)), .sl 1 q1, .sl 1 q2], ⟨⟨⟨rfl, at1 hlm rfl⟩, M2⟩, st1 hlm rfl⟩, ?_⟩
      conv => whnf
      exact ⟨k + 1, ⟨hlt, by omega⟩, le_mkD rfl ⟨⟨rfl, rfl⟩, ⟨i64_eq (hfin.trans hNs.symm), rfl⟩, ⟨ctr (by omega), rfl⟩, trivial⟩ ⟨⟨row_eq hset, rfl⟩, trivial⟩ rfl rfl⟩
    · have hk2 : k = l.length := by simp [hRl k hk] at h; omega
      subst hk2
      conv => whnf
      exact ⟨rfl, ⟨_, _, rfl, rfl⟩, trivial⟩
  · rw [← hN1]
    refine pureC_of (Γ := lookT tbl) (il := ilist) tg dr Try.func25 rfl (by kernel_rfl) rfl (Nat.le_of_ble_eq_true rfl) ?_
    conv => whnf
    refine loop_i (fun k : Nat => ⟨envL [(0, .c (.pv (.sl 8 ys))), (1, .c (.pv (.int .i64 (N k)))), (5, .c (.pv (.int .i64 k)))], resL [], 0, 91⟩) (fun k => k ≤ l.length) (fun k => l.length - k) 0 (Nat.zero_le _) (le_mk [] rfl ⟨⟨rfl, rfl⟩, ⟨i64_eq hN0.symm, rfl⟩, ⟨rfl, rfl⟩, trivial⟩ trivial rfl) ?_
    intro k hk
    conv => whnf
    refine br_i (fun h => ?_) (fun h => ?_)
    · have hlt : k < l.length := by simpa [hyl] using h
      obtain ⟨hNs, hn0, hn1, el, ⟨q1, m1, q2, m2, rfl, M1, H1, P1, M2, H2, P2, hfin⟩, hy, hget, hset⟩ := hst k hlt
      have hix : (0 ≤ (k : Int) ∧ ys[(k : Int).toNat]? = some [.int .i64 (N k), .int .i64 (w64 (N k + 1)), .int .i64 (w64 (w64 (N k + 1) + 1)), .int .i64 (w64 (w64 (w64 (N k + 1) + 1) + 1)), .int .i64 (w64 (w64 (w64 (w64 (N k + 1) + 1) + 1) + 1)), .int .i64 (w64 (w64 (w64 (w64 (w64 (N k + 1) + 1) + 1) + 1) + 1)), .sl 1 q1, .sl 1 q2]) ∧ 8 = 8 := ⟨⟨by omega, hy⟩, rfl⟩
      conv => whnf
      refine ⟨_, hix, ?_⟩
      conv => whnf
      refine br_i (fun h => absurd h (by simp)) (fun h => ?_)
      conv => whnf
      refine ⟨_, hix, ?_⟩
      conv => whnf
      refine br_i (fun h => absurd h (by simp)) (fun h => ?_)
      conv => whnf
      refine ⟨_, hix, ?_⟩
      conv => whnf
      refine br_i (fun h => absurd h (by simp)) (fun h => ?_)
      conv => whnf
      refine ⟨_, hix, ?_⟩
      conv => whnf
      refine br_i (fun h => absurd h (by simp)) (fun h => ?_)
      conv => whnf
      refine ⟨_, hix, ?_⟩
      conv => whnf
      refine br_i (fun h => absurd h (by simp)) (fun h => ?_)
      conv => whnf
      refine ⟨_, hix, ?_⟩
      conv => whnf
      refine br_i (fun h => absurd h (by simp)) (fun h => ?_)
      conv => whnf
      refine ⟨_, hix, ?_⟩
      conv => whnf
      refine call_i H1 ?_
      conv => whnf
      refine br_i (fun h => absurd (dlt h) (by omega)) (fun h => ?_)
      conv => whnf
      refine ⟨_, hix, ?_⟩
      conv => whnf
      refine call_i H2 ?_
      conv => whnf
      refine br_i (fun h => absurd (dlt h) (by omega)) (fun h => ?_)
      conv => whnf
      exact ⟨k + 1, ⟨hlt, by omega⟩, le_mk [] rfl ⟨⟨rfl, rfl⟩, ⟨i64_eq (hfin.trans hNs.symm), rfl⟩, ⟨ctr (by omega), rfl⟩, trivial⟩ trivial rfl⟩
    · have hk2 : k = l.length := by simp [hyl] at h; omega
      subst hk2
      conv => whnf
      exact leaf_i rfl rfl rfl
def XOrder.mc (x : XOrder) : Nat := 6 + x.Req.Words.length + x.Req.Bits.length
theorem mkOrderS (l : List XOrder) : MkS Try.prog 29 30 8 (l.map XOrder.ps) (sumF XOrder.mc l) := by
  intro n h0 h1
  obtain ⟨N, ys, R, hlen, hN0, hN1, hyl, hR0, hR1, hRl, hst⟩ := chain XOrder.ps XOrder.mc (fun x n el => ∃ (q1 : List (List PV)) (m1 : Int) (q2 : List (List PV)) (m2 : Int), el = [.int .i64 (n), .int .i64 (w64 (n + 1)), .int .i64 (w64 (w64 (n + 1) + 1)), .int .i64 (w64 (w64 (w64 (n + 1) + 1) + 1)), .int .i64 (w64 (w64 (w64 (w64 (n + 1) + 1) + 1) + 1)), .sl 1 q1, .sl 1 q2, .int .i64 (m2)] ∧ MarkC Try.prog 62 (.one (.sl 1 (x.Req.Words.map intEl))) (w64 (w64 (w64 (w64 (w64 (n + 1) + 1) + 1) + 1) + 1)) (.one (.sl 1 q1)) m1 ∧ PureC Try.prog 64 [.one (.sl 1 q1), i64v (w64 (w64 (w64 (w64 (w64 (n + 1) + 1) + 1) + 1) + 1))] [i64v m1] ∧ 0 ≤ m1 ∧ MarkC Try.prog 63 (.one (.sl 1 (x.Req.Bits.map boolEl))) (m1) (.one (.sl 1 q2)) m2 ∧ PureC Try.prog 65 [.one (.sl 1 q2), i64v (m1)] [i64v m2] ∧ 0 ≤ m2 ∧ w64 (m2 + 1) = n + (XOrder.mc x : Nat)) l n h0 h1 (by intro x; simp [XOrder.mc]; try omega) (by
      intro x hx n h0 h1
      unfold XOrder.mc at h1 ⊢
      have h_0 : n = n + ((0 : Nat) : Int) := by omega
      have h_1 : w64 (n + 1) = n + ((0 + 1 : Nat) : Int) := by rw [h_0]; exact (wrap_ok (by omega) (by omega)).trans (by omega)
      have h_2 : w64 (w64 (n + 1) + 1) = n + ((0 + 1 + 1 : Nat) : Int) := by rw [h_1]; exact (wrap_ok (by omega) (by omega)).trans (by omega)
      have h_3 : w64 (w64 (w64 (n + 1) + 1) + 1) = n + ((0 + 1 + 1 + 1 : Nat) : Int) := by rw [h_2]; exact (wrap_ok (by omega) (by omega)).trans (by omega)
      have h_4 : w64 (w64 (w64 (w64 (n + 1) + 1) + 1) + 1) = n + ((0 + 1 + 1 + 1 + 1 : Nat) : Int) := by rw [h_3]; exact (wrap_ok (by omega) (by omega)).trans (by omega)
      have h_5 : w64 (w64 (w64 (w64 (w64 (n + 1) + 1) + 1) + 1) + 1) = n + ((0 + 1 + 1 + 1 + 1 + 1 : Nat) : Int) := by rw [h_4]; exact (wrap_ok (by omega) (by omega)).trans (by omega)
      obtain ⟨q1, M1, H1⟩ := mkIntS x.Req.Words (w64 (w64 (w64 (w64 (w64 (n + 1) + 1) + 1) + 1) + 1)) (by rw [h_5]; omega) (by rw [h_5]; omega)
      generalize hc1 : (w64 (w64 (w64 (w64 (w64 (n + 1) + 1) + 1) + 1) + 1)) + _ = c1 at M1 H1
      have h_6 : c1 = n + ((0 + 1 + 1 + 1 + 1 + 1 + x.Req.Words.length : Nat) : Int) := by rw [← hc1, h_5]; push_cast; omega
      obtain ⟨q2, M2, H2⟩ := mkBoolS x.Req.Bits (c1) (by rw [h_6]; omega) (by rw [h_6]; omega)
      generalize hc2 : (c1) + _ = c2 at M2 H2
      have h_7 : c2 = n + ((0 + 1 + 1 + 1 + 1 + 1 + x.Req.Words.length + x.Req.Bits.length : Nat) : Int) := by rw [← hc2, h_6]; push_cast; omega
      have h_8 : w64 (c2 + 1) = n + ((0 + 1 + 1 + 1 + 1 + 1 + x.Req.Words.length + x.Req.Bits.length + 1 : Nat) : Int) := by rw [h_7]; exact (wrap_ok (by omega) (by omega)).trans (by omega)
      exact ⟨_, q1, c1, q2, c2, rfl, M1, H1, by omega, M2, H2, by omega, by rw [h_8]; try omega⟩)
  refine ⟨ys, ?_, ?_⟩
  · rw [← hN1, ← hR1, ← hR0]
    refine markC_of (Γ := lookT tbl) (il := ilist) tg drD Try.func29 rfl (by kernel_rfl) rfl (Nat.le_of_ble_eq_true rfl) (Nat.le_of_ble_eq_true rfl) rfl ?_
    conv => whnf
    refine loop_i (fun k : Nat => ⟨envL [(0, .c (.row 0)), (1, .c (.pv (.int .i64 (N k)))), (5, .c (.pv (.int .i64 k)))], resL [(0, .row true 8 (R k))], 64, 75⟩) (fun k => k ≤ l.length) (fun k => l.length - k) 0 (Nat.zero_le _) (le_mkD rfl ⟨⟨rfl, rfl⟩, ⟨i64_eq hN0.symm, rfl⟩, ⟨rfl, rfl⟩, trivial⟩ ⟨⟨rfl, rfl⟩, trivial⟩ rfl rfl) ?_
    intro k hk
    conv => whnf
    refine br_i (fun h => ?_) (fun h => ?_)
    · have hlt : k < l.length := by simpa [hRl k hk] using h
      obtain ⟨hNs, hn0, hn1, el, ⟨q1, m1, q2, m2, rfl, M1, H1, P1, M2, H2, P2, hfin⟩, hy, hget, hset⟩ := hst k hlt
      have hlm : k < (R k).length := by rw [hRl k hk]; exact hlt
      conv => whnf
      refine ⟨k, ⟨⟨rfl, hlm⟩, rfl⟩, ?_⟩
      conv => whnf
      refine ⟨(R k).set k [.int .i64 (N k), .int .i64 l[k].Unit, .int .i64 l[k].Req.Kind, .int .i64 l[k].Req.At, .int .i64 l[k].Req.N, intsP l[k].Req.Words, boolsP l[k].Req.Bits, .int .i64 l[k].Req.WAt], ⟨rfl, hlm, by decide, st0 hget rfl⟩, ?_⟩
      conv => whnf
      refine ⟨k, ⟨⟨rfl, ln1 hlm⟩, rfl⟩, ?_⟩
      conv => whnf
      refine ⟨(R k).set k [.int .i64 (N k), .int .i64 (w64 (N k + 1)), .int .i64 l[k].Req.Kind, .int .i64 l[k].Req.At, .int .i64 l[k].Req.N, intsP l[k].Req.Words, boolsP l[k].Req.Bits, .int .i64 l[k].Req.WAt], ⟨rfl, ln1 hlm, by decide, st1 hlm rfl⟩, ?_⟩
      conv => whnf
      refine ⟨k, ⟨⟨rfl, ln1 hlm⟩, rfl⟩, ?_⟩
      conv => whnf
      refine ⟨(R k).set k [.int .i64 (N k), .int .i64 (w64 (N k + 1)), .int .i64 (w64 (w64 (N k + 1) + 1)), .int .i64 l[k].Req.At, .int .i64 l[k].Req.N, intsP l[k].Req.Words, boolsP l[k].Req.Bits, .int .i64 l[k].Req.WAt], ⟨rfl, ln1 hlm, by decide, st1 hlm rfl⟩, ?_⟩
      conv => whnf
      refine ⟨k, ⟨⟨rfl, ln1 hlm⟩, rfl⟩, ?_⟩
      conv => whnf
      refine ⟨(R k).set k [.int .i64 (N k), .int .i64 (w64 (N k + 1)), .int .i64 (w64 (w64 (N k + 1) + 1)), .int .i64 (w64 (w64 (w64 (N k + 1) + 1) + 1)), .int .i64 l[k].Req.N, intsP l[k].Req.Words, boolsP l[k].Req.Bits, .int .i64 l[k].Req.WAt], ⟨rfl, ln1 hlm, by decide, st1 hlm rfl⟩, ?_⟩
      conv => whnf
      refine ⟨k, ⟨⟨rfl, ln1 hlm⟩, rfl⟩, ?_⟩
      conv => whnf
      refine ⟨(R k).set k [.int .i64 (N k), .int .i64 (w64 (N k + 1)), .int .i64 (w64 (w64 (N k + 1) + 1)), .int .i64 (w64 (w64 (w64 (N k + 1) + 1) + 1)), .int .i64 (w64 (w64 (w64 (w64 (N k + 1) + 1) + 1) + 1)), intsP l[k].Req.Words, boolsP l[k].Req.Bits, .int .i64 l[k].Req.WAt], ⟨rfl, ln1 hlm, by decide, st1 hlm rfl⟩, ?_⟩
      conv => whnf
      refine ⟨k, ⟨⟨rfl, ln1 hlm⟩, rfl⟩, ?_⟩
      conv => whnf
      refine ⟨_, _, q1, m1, (R k).set k [.int .i64 (N k), .int .i64 (w64 (N k + 1)), .int .i64 (w64 (w64 (N k + 1) + 1)), .int .i64 (w64 (w64 (w64 (N k + 1) + 1) + 1)), .int .i64 (w64 (w64 (w64 (w64 (N k + 1) + 1) + 1) + 1)), .sl 1 q1, boolsP l[k].Req.Bits, .int .i64 l[k].Req.WAt], ⟨⟨⟨rfl, at1 hlm rfl⟩, M1⟩, st1 hlm rfl⟩, ?_⟩
      conv => whnf
      refine ⟨k, ⟨⟨rfl, ln1 hlm⟩, rfl⟩, ?_⟩
      conv => whnf
      refine ⟨_, _, q2, m2, (R k).set k [.int .i64 (N k), .int .i64 (w64 (N k + 1)), .int .i64 (w64 (w64 (N k + 1) + 1)), .int .i64 (w64 (w64 (w64 (N k + 1) + 1) + 1)), .int .i64 (w64 (w64 (w64 (w64 (N k + 1) + 1) + 1) + 1)), .sl 1 q1, .sl 1 q2, .int .i64 l[k].Req.WAt], ⟨⟨⟨rfl, at1 hlm rfl⟩, M2⟩, st1 hlm rfl⟩, ?_⟩
      conv => whnf
      refine ⟨k, ⟨⟨rfl, ln1 hlm⟩, rfl⟩, ?_⟩
      conv => whnf
      refine ⟨(R k).set k [.int .i64 (N k), .int .i64 (w64 (N k + 1)), .int .i64 (w64 (w64 (N k + 1) + 1)), .int .i64 (w64 (w64 (w64 (N k + 1) + 1) + 1)), .int .i64 (w64 (w64 (w64 (w64 (N k + 1) + 1) + 1) + 1)), .sl 1 q1, .sl 1 q2, .int .i64 (m2)], ⟨rfl, ln1 hlm, by decide, st1 hlm rfl⟩, ?_⟩
      conv => whnf
      exact ⟨k + 1, ⟨hlt, by omega⟩, le_mkD rfl ⟨⟨rfl, rfl⟩, ⟨i64_eq (hfin.trans hNs.symm), rfl⟩, ⟨ctr (by omega), rfl⟩, trivial⟩ ⟨⟨row_eq hset, rfl⟩, trivial⟩ rfl rfl⟩
    · have hk2 : k = l.length := by simp [hRl k hk] at h; omega
      subst hk2
      conv => whnf
      exact ⟨rfl, ⟨_, _, rfl, rfl⟩, trivial⟩
  · rw [← hN1]
    refine pureC_of (Γ := lookT tbl) (il := ilist) tg dr Try.func30 rfl (by kernel_rfl) rfl (Nat.le_of_ble_eq_true rfl) ?_
    conv => whnf
    refine loop_i (fun k : Nat => ⟨envL [(0, .c (.pv (.sl 8 ys))), (1, .c (.pv (.int .i64 (N k)))), (5, .c (.pv (.int .i64 k)))], resL [], 0, 91⟩) (fun k => k ≤ l.length) (fun k => l.length - k) 0 (Nat.zero_le _) (le_mk [] rfl ⟨⟨rfl, rfl⟩, ⟨i64_eq hN0.symm, rfl⟩, ⟨rfl, rfl⟩, trivial⟩ trivial rfl) ?_
    intro k hk
    conv => whnf
    refine br_i (fun h => ?_) (fun h => ?_)
    · have hlt : k < l.length := by simpa [hyl] using h
      obtain ⟨hNs, hn0, hn1, el, ⟨q1, m1, q2, m2, rfl, M1, H1, P1, M2, H2, P2, hfin⟩, hy, hget, hset⟩ := hst k hlt
      have hix : (0 ≤ (k : Int) ∧ ys[(k : Int).toNat]? = some [.int .i64 (N k), .int .i64 (w64 (N k + 1)), .int .i64 (w64 (w64 (N k + 1) + 1)), .int .i64 (w64 (w64 (w64 (N k + 1) + 1) + 1)), .int .i64 (w64 (w64 (w64 (w64 (N k + 1) + 1) + 1) + 1)), .sl 1 q1, .sl 1 q2, .int .i64 (m2)]) ∧ 8 = 8 := ⟨⟨by omega, hy⟩, rfl⟩
      conv => whnf
      refine ⟨_, hix, ?_⟩
      conv => whnf
      refine br_i (fun h => absurd h (by simp)) (fun h => ?_)
      conv => whnf
      refine ⟨_, hix, ?_⟩
      conv => whnf
      refine br_i (fun h => absurd h (by simp)) (fun h => ?_)
      conv => whnf
      refine ⟨_, hix, ?_⟩
      conv => whnf
      refine br_i (fun h => absurd h (by simp)) (fun h => ?_)
      conv => whnf
      refine ⟨_, hix, ?_⟩
      conv => whnf
      refine br_i (fun h => absurd h (by simp)) (fun h => ?_)
      conv => whnf
      refine ⟨_, hix, ?_⟩
      conv => whnf
      refine br_i (fun h => absurd h (by simp)) (fun h => ?_)
      conv => whnf
      refine ⟨_, hix, ?_⟩
      conv => whnf
      refine call_i H1 ?_
      conv => whnf
      refine br_i (fun h => absurd (dlt h) (by omega)) (fun h => ?_)
      conv => whnf
      refine ⟨_, hix, ?_⟩
      conv => whnf
      refine call_i H2 ?_
      conv => whnf
      refine br_i (fun h => absurd (dlt h) (by omega)) (fun h => ?_)
      conv => whnf
      refine ⟨_, hix, ?_⟩
      conv => whnf
      refine br_i (fun h => absurd h (by simp)) (fun h => ?_)
      conv => whnf
      exact ⟨k + 1, ⟨hlt, by omega⟩, le_mk [] rfl ⟨⟨rfl, rfl⟩, ⟨i64_eq (hfin.trans hNs.symm), rfl⟩, ⟨ctr (by omega), rfl⟩, trivial⟩ trivial rfl⟩
    · have hk2 : k = l.length := by simp [hyl] at h; omega
      subst hk2
      conv => whnf
      exact leaf_i rfl rfl rfl
end Go.Proofs.Ytieenbofbfkhpaa
