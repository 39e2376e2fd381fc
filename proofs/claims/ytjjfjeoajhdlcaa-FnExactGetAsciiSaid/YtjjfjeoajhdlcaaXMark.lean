/- Marks, written and found again. -/
import Derived.Test.YtjjfjeoajhdlcaaXHelp
namespace Go.Proofs.Ytjjfjeoajhdlcaa
open Go Go.Vi
set_option linter.unusedVariables false
set_option linter.unusedSimpArgs false
set_option maxRecDepth 100000
theorem mkByteS (l : List Int) : MkS Try.prog 38 39 1 (l.map byteEl) (l.length) := by
  intro n h0 h1
  have hsum : sumF (fun _ => 1) l = l.length := by
    clear h1; induction l with
    | nil => rfl
    | cons a l ih => simp [sumF, ih]; omega
  rw [← hsum] at h1 ⊢
  obtain ⟨N, ys, R, hlen, hN0, hN1, hyl, hR0, hR1, hRl, hst⟩ := chain byteEl (fun _ => 1) (fun x n el => el = [.int .u8 (IntKind.u8.wrap (n))] ∧ w64 (n + 1) = n + ((fun _ => 1) x : Nat)) l n h0 h1 (by intro x; simp) (by
      intro x hx n h0 h1
      have h_0 : n = n + ((0 : Nat) : Int) := by omega
      have h_1 : w64 (n + 1) = n + ((0 + 1 : Nat) : Int) := by rw [h_0]; exact (wrap_ok (by omega) (by omega)).trans (by omega)
      exact ⟨_, rfl, by rw [h_1]; try omega⟩)
  refine ⟨ys, ?_, ?_⟩
  · rw [← hN1, ← hR1, ← hR0]
    refine markC_of (Γ := lookT tbl) (il := ilist) tg drD Try.func38 rfl (by kernel_rfl) rfl (Nat.le_of_ble_eq_true rfl) (Nat.le_of_ble_eq_true rfl) rfl ?_
    conv => whnf
    refine loop_i (fun k : Nat => ⟨envL [(0, .c (.row 0)), (1, .c (.pv (.int .i64 (N k)))), (5, .c (.pv (.int .i64 k)))], resL [(0, .row true 1 (R k))], 64, 20⟩) (fun k => k ≤ l.length) (fun k => l.length - k) 0 (Nat.zero_le _) (le_mkD rfl ⟨⟨rfl, rfl⟩, ⟨i64_eq hN0.symm, rfl⟩, ⟨rfl, rfl⟩, trivial⟩ ⟨⟨rfl, rfl⟩, trivial⟩ rfl rfl) ?_
    intro k hk
    conv => whnf
    refine br_i (fun h => ?_) (fun h => ?_)
    · have hlt : k < l.length := by simpa [hRl k hk] using h
      obtain ⟨hNs, hn0, hn1, el, ⟨rfl, hfin⟩, hy, hget, hset⟩ := hst k hlt
      have hlm : k < (R k).length := by rw [hRl k hk]; exact hlt
      conv => whnf
      refine ⟨k, ⟨⟨rfl, hlm⟩, rfl⟩, ?_⟩
      conv => whnf
      refine ⟨(R k).set k [.int .u8 (IntKind.u8.wrap (N k))], ⟨rfl, hlm, by decide, st0 hget rfl⟩, ?_⟩
      conv => whnf
      exact ⟨k + 1, ⟨hlt, by omega⟩, le_mkD rfl ⟨⟨rfl, rfl⟩, ⟨i64_eq (hfin.trans hNs.symm), rfl⟩, ⟨ctr (by omega), rfl⟩, trivial⟩ ⟨⟨row_eq hset, rfl⟩, trivial⟩ rfl rfl⟩
    · have hk2 : k = l.length := by simp [hRl k hk] at h; omega
      subst hk2
      conv => whnf
      exact ⟨rfl, ⟨_, _, rfl, rfl⟩, trivial⟩
  · rw [← hN1]
    refine pureC_of (Γ := lookT tbl) (il := ilist) tg dr Try.func39 rfl (by kernel_rfl) rfl (Nat.le_of_ble_eq_true rfl) ?_
    conv => whnf
    refine loop_i (fun k : Nat => ⟨envL [(0, .c (.pv (.sl 1 ys))), (1, .c (.pv (.int .i64 (N k)))), (5, .c (.pv (.int .i64 k)))], resL [], 0, 22⟩) (fun k => k ≤ l.length) (fun k => l.length - k) 0 (Nat.zero_le _) (le_mk [] rfl ⟨⟨rfl, rfl⟩, ⟨i64_eq hN0.symm, rfl⟩, ⟨rfl, rfl⟩, trivial⟩ trivial rfl) ?_
    intro k hk
    conv => whnf
    refine br_i (fun h => ?_) (fun h => ?_)
    · have hlt : k < l.length := by simpa [hyl] using h
      obtain ⟨hNs, hn0, hn1, el, ⟨rfl, hfin⟩, hy, hget, hset⟩ := hst k hlt
      have hix : (0 ≤ (k : Int) ∧ ys[(k : Int).toNat]? = some [.int .u8 (IntKind.u8.wrap (N k))]) ∧ 1 = 1 := ⟨⟨by omega, hy⟩, rfl⟩
      conv => whnf
      refine ⟨_, hix, ?_⟩
      conv => whnf
      refine br_i (fun h => absurd h (by simp)) (fun h => ?_)
      conv => whnf
      exact ⟨k + 1, ⟨hlt, by omega⟩, le_mk [] rfl ⟨⟨rfl, rfl⟩, ⟨i64_eq (hfin.trans hNs.symm), rfl⟩, ⟨ctr (by omega), rfl⟩, trivial⟩ trivial rfl⟩
    · have hk2 : k = l.length := by simp [hyl] at h; omega
      subst hk2
      conv => whnf
      exact leaf_i rfl rfl rfl
def XAscii.sc (x : XAscii) : Nat := 0 + x.Buf.length
theorem mkAscii (x : XAscii) (n : Int) (h0 : 0 ≤ n) (h1 : n + x.sc ≤ 4611686018427387904) : ∃ (q1 : List (List PV)), MarkC Try.prog 27 x.v n (.agg [.sl 1 q1, .bool x.Open, .int .i64 x.Last, .int .i64 x.Wait]) (n + x.sc) ∧ PureC Try.prog 28 [.agg [.sl 1 q1, .bool x.Open, .int .i64 x.Last, .int .i64 x.Wait], i64v n] [i64v (n + x.sc)] := by
  unfold XAscii.sc at *
  have h_0 : n = n + ((0 : Nat) : Int) := by omega
  obtain ⟨q1, M1, H1⟩ := mkByteS x.Buf (n) (by rw [h_0]; omega) (by rw [h_0]; omega)
  generalize hc1 : (n) + ((_ : Nat) : Int) = c1 at M1 H1
  have h_1 : c1 = n + ((0 + x.Buf.length : Nat) : Int) := by rw [← hc1, h_0]; push_cast; omega
  have hfin : c1 = n + ((0 + x.Buf.length : Nat) : Int) := by rw [h_1]; try omega
  refine ⟨q1, ?_, ?_⟩
  · refine markC_of (Γ := lookT tbl) (il := ilist) tg drD Try.func27 rfl (by kernel_rfl) rfl (Nat.le_of_ble_eq_true rfl) (Nat.le_of_ble_eq_true rfl) rfl ?_
    conv => whnf
    refine mark_i M1 rfl ?_
    conv => whnf
    exact ⟨i64s_eq hfin, ⟨_, _, rfl, rfl⟩, rfl, rfl, rfl, trivial⟩
  · refine pureC_of (Γ := lookT tbl) (il := ilist) tg dr Try.func28 rfl (by kernel_rfl) rfl (Nat.le_of_ble_eq_true rfl) ?_
    conv => whnf
    refine call_i H1 ?_
    conv => whnf
    refine br_i (fun h => absurd (dlt h) (by omega)) (fun h => ?_)
    conv => whnf
    exact leaf_i rfl rfl (i64l_eq hfin)
end Go.Proofs.Ytjjfjeoajhdlcaa
