/- Marks, written and found again. -/
import Derived.Test.YtoccphgempbdeaaXHelp
namespace Go.Proofs.Ytoccphgempbdeaa
open Go Go.Vi
set_option linter.unusedVariables false
set_option linter.unusedSimpArgs false
set_option maxRecDepth 100000
theorem mkByteS (l : List Int) : MkS Try.prog 16 17 1 (l.map byteEl) (l.length) := by
  intro n h0 h1
  have hsum : sumF (fun _ => 1) l = l.length := by
    clear h1; induction l with
    | nil => rfl
    | cons a l ih => simp [sumF, ih]; omega
  rw [← hsum] at h1 ⊢
  obtain ⟨N, ys, R, hlen, hN0, hN1, hyl, hR0, hR1, hRl, hst⟩ := chain byteEl (fun _ => 1) (fun x n el => el = [.int .u8 (IntKind.u8.wrap (n))] ∧ w64 (n + 1) = n + ((fun _ => 1) x : Nat)) l n h0 h1 (by intro x; simp) (by
      intro x hx n h0 h1
      have h_0 : n = n + ((0 : Nat) : Int) := by omega
      have h_1 : w64 (n + 1) = n + ((0 + 1 : Nat) : Int) := by rw [h_0]; exact (wrap_ok (by omega) (by omega)).trans (by omega)
      exact ⟨_, rfl, by rw [h_1]; try omega⟩)
  refine ⟨ys, ?_, ?_⟩
  · rw [← hN1, ← hR1, ← hR0]
    refine markC_of (Γ := lookT tbl) (il := ilist) tg drD Try.func16 rfl (by kernel_rfl) rfl (Nat.le_of_ble_eq_true rfl) (Nat.le_of_ble_eq_true rfl) rfl ?_
    conv => whnf
    refine loop_i (fun k : Nat => ⟨envL [(0, .c (.row 0)), (1, .c (.pv (.int .i64 (N k)))), (5, .c (.pv (.int .i64 k)))], resL [(0, .row true 1 (R k))], 64, 20⟩) (fun k => k ≤ l.length) (fun k => l.length - k) 0 (Nat.zero_le _) (le_mkD rfl ⟨⟨rfl, rfl⟩, ⟨i64_eq hN0.symm, rfl⟩, ⟨rfl, rfl⟩, trivial⟩ ⟨⟨rfl, rfl⟩, trivial⟩ rfl rfl) ?_
    intro k hk
    conv => whnf
    refine br_i (fun h => ?_) (fun h => ?_)
    · have hlt : k < l.length := by simpa [hRl k hk] using h
      obtain ⟨hNs, hn0, hn1, el, ⟨rfl, hfin⟩, hy, hget, hset⟩ := hst k hlt
      have hlm : k < (R k).length := by rw [hRl k hk]; exact hlt
      conv => whnf
      refine ⟨k, ⟨⟨rfl, hlm⟩, rfl⟩, ?_⟩
      conv => whnf
      refine ⟨(R k).set k [.int .u8 (IntKind.u8.wrap (N k))], ⟨rfl, hlm, by decide, st0 hget rfl⟩, ?_⟩
      conv => whnf
      exact ⟨k + 1, ⟨hlt, by omega⟩, le_mkD rfl ⟨⟨rfl, rfl⟩, ⟨i64_eq (hfin.trans hNs.symm), rfl⟩, ⟨ctr (by omega), rfl⟩, trivial⟩ ⟨⟨row_eq hset, rfl⟩, trivial⟩ rfl rfl⟩
    · have hk2 : k = l.length := by simp [hRl k hk] at h; omega
      subst hk2
      conv => whnf
      exact ⟨rfl, ⟨_, _, rfl, rfl⟩, trivial⟩
  · rw [← hN1]
    refine pureC_of (Γ := lookT tbl) (il := ilist) tg dr Try.func17 rfl (by kernel_rfl) rfl (Nat.le_of_ble_eq_true rfl) ?_
    conv => whnf
    refine loop_i (fun k : Nat => ⟨envL [(0, .c (.pv (.sl 1 ys))), (1, .c (.pv (.int .i64 (N k)))), (5, .c (.pv (.int .i64 k)))], resL [], 0, 22⟩) (fun k => k ≤ l.length) (fun k => l.length - k) 0 (Nat.zero_le _) (le_mk [] rfl ⟨⟨rfl, rfl⟩, ⟨i64_eq hN0.symm, rfl⟩, ⟨rfl, rfl⟩, trivial⟩ trivial rfl) ?_
    intro k hk
    conv => whnf
    refine br_i (fun h => ?_) (fun h => ?_)
    · have hlt : k < l.length := by simpa [hyl] using h
      obtain ⟨hNs, hn0, hn1, el, ⟨rfl, hfin⟩, hy, hget, hset⟩ := hst k hlt
      have hix : (0 ≤ (k : Int) ∧ ys[(k : Int).toNat]? = some [.int .u8 (IntKind.u8.wrap (N k))]) ∧ 1 = 1 := ⟨⟨by omega, hy⟩, rfl⟩
      conv => whnf
      refine ⟨_, hix, ?_⟩
      conv => whnf
      refine br_i (fun h => absurd h (by simp)) (fun h => ?_)
      conv => whnf
      exact ⟨k + 1, ⟨hlt, by omega⟩, le_mk [] rfl ⟨⟨rfl, rfl⟩, ⟨i64_eq (hfin.trans hNs.symm), rfl⟩, ⟨ctr (by omega), rfl⟩, trivial⟩ trivial rfl⟩
    · have hk2 : k = l.length := by simp [hyl] at h; omega
      subst hk2
      conv => whnf
      exact leaf_i rfl rfl rfl
def XRtu.sc (x : XRtu) : Nat := 0 + x.Buf.length
theorem mkRtu (x : XRtu) (n : Int) (h0 : 0 ≤ n) (h1 : n + x.sc ≤ 4611686018427387904) : ∃ (q1 : List (List PV)), MarkC Try.prog 43 x.v n (.agg [.sl 1 q1, .int .i64 x.Last, .bool x.Bad, .int .i64 x.Half, .int .i64 x.Whole]) (n + x.sc) ∧ PureC Try.prog 58 [.agg [.sl 1 q1, .int .i64 x.Last, .bool x.Bad, .int .i64 x.Half, .int .i64 x.Whole], i64v n] [i64v (n + x.sc)] := by
  unfold XRtu.sc at *
  have h_0 : n = n + ((0 : Nat) : Int) := by omega
  obtain ⟨q1, M1, H1⟩ := mkByteS x.Buf (n) (by rw [h_0]; omega) (by rw [h_0]; omega)
  generalize hc1 : (n) + ((_ : Nat) : Int) = c1 at M1 H1
  have h_1 : c1 = n + ((0 + x.Buf.length : Nat) : Int) := by rw [← hc1, h_0]; push_cast; omega
  have hfin : c1 = n + ((0 + x.Buf.length : Nat) : Int) := by rw [h_1]; try omega
  refine ⟨q1, ?_, ?_⟩
  · refine markC_of (Γ := lookT tbl) (il := ilist) tg drD Try.func43 rfl (by kernel_rfl) rfl (Nat.le_of_ble_eq_true rfl) (Nat.le_of_ble_eq_true rfl) rfl ?_
    conv => whnf
    refine mark_i M1 rfl ?_
    conv => whnf
    exact ⟨i64s_eq hfin, ⟨_, _, rfl, rfl⟩, rfl, rfl, rfl, rfl, trivial⟩
  · refine pureC_of (Γ := lookT tbl) (il := ilist) tg dr Try.func58 rfl (by kernel_rfl) rfl (Nat.le_of_ble_eq_true rfl) ?_
    conv => whnf
    refine call_i H1 ?_
    conv => whnf
    refine br_i (fun h => absurd (dlt h) (by omega)) (fun h => ?_)
    conv => whnf
    exact leaf_i rfl rfl (i64l_eq hfin)
def XAscii.sc (x : XAscii) : Nat := 0 + x.Buf.length
theorem mkAscii (x : XAscii) (n : Int) (h0 : 0 ≤ n) (h1 : n + x.sc ≤ 4611686018427387904) : ∃ (q1 : List (List PV)), MarkC Try.prog 44 x.v n (.agg [.sl 1 q1, .bool x.Open, .int .i64 x.Last, .int .i64 x.Wait]) (n + x.sc) ∧ PureC Try.prog 59 [.agg [.sl 1 q1, .bool x.Open, .int .i64 x.Last, .int .i64 x.Wait], i64v n] [i64v (n + x.sc)] := by
  unfold XAscii.sc at *
  have h_0 : n = n + ((0 : Nat) : Int) := by omega
  obtain ⟨q1, M1, H1⟩ := mkByteS x.Buf (n) (by rw [h_0]; omega) (by rw [h_0]; omega)
  generalize hc1 : (n) + ((_ : Nat) : Int) = c1 at M1 H1
  have h_1 : c1 = n + ((0 + x.Buf.length : Nat) : Int) := by rw [← hc1, h_0]; push_cast; omega
  have hfin : c1 = n + ((0 + x.Buf.length : Nat) : Int) := by rw [h_1]; try omega
  refine ⟨q1, ?_, ?_⟩
  · refine markC_of (Γ := lookT tbl) (il := ilist) tg drD Try.func44 rfl (by kernel_rfl) rfl (Nat.le_of_ble_eq_true rfl) (Nat.le_of_ble_eq_true rfl) rfl ?_
    conv => whnf
    refine mark_i M1 rfl ?_
    conv => whnf
    exact ⟨i64s_eq hfin, ⟨_, _, rfl, rfl⟩, rfl, rfl, rfl, trivial⟩
  · refine pureC_of (Γ := lookT tbl) (il := ilist) tg dr Try.func59 rfl (by kernel_rfl) rfl (Nat.le_of_ble_eq_true rfl) ?_
    conv => whnf
    refine call_i H1 ?_
    conv => whnf
    refine br_i (fun h => absurd (dlt h) (by omega)) (fun h => ?_)
    conv => whnf
    exact leaf_i rfl rfl (i64l_eq hfin)
def XStream.sc (x : XStream) : Nat := 0 + x.Buf.length
theorem mkStream (x : XStream) (n : Int) (h0 : 0 ≤ n) (h1 : n + x.sc ≤ 4611686018427387904) : ∃ (q1 : List (List PV)), MarkC Try.prog 45 x.v n (.agg [.sl 1 q1, .bool x.Shut]) (n + x.sc) ∧ PureC Try.prog 60 [.agg [.sl 1 q1, .bool x.Shut], i64v n] [i64v (n + x.sc)] := by
  unfold XStream.sc at *
  have h_0 : n = n + ((0 : Nat) : Int) := by omega
  obtain ⟨q1, M1, H1⟩ := mkByteS x.Buf (n) (by rw [h_0]; omega) (by rw [h_0]; omega)
  generalize hc1 : (n) + ((_ : Nat) : Int) = c1 at M1 H1
  have h_1 : c1 = n + ((0 + x.Buf.length : Nat) : Int) := by rw [← hc1, h_0]; push_cast; omega
  have hfin : c1 = n + ((0 + x.Buf.length : Nat) : Int) := by rw [h_1]; try omega
  refine ⟨q1, ?_, ?_⟩
  · refine markC_of (Γ := lookT tbl) (il := ilist) tg drD Try.func45 rfl (by kernel_rfl) rfl (Nat.le_of_ble_eq_true rfl) (Nat.le_of_ble_eq_true rfl) rfl ?_
    conv => whnf
    refine mark_i M1 rfl ?_
    conv => whnf
    exact ⟨i64s_eq hfin, ⟨_, _, rfl, rfl⟩, rfl, trivial⟩
  · refine pureC_of (Γ := lookT tbl) (il := ilist) tg dr Try.func60 rfl (by kernel_rfl) rfl (Nat.le_of_ble_eq_true rfl) ?_
    conv => whnf
    refine call_i H1 ?_
    conv => whnf
    refine br_i (fun h => absurd (dlt h) (by omega)) (fun h => ?_)
    conv => whnf
    exact leaf_i rfl rfl (i64l_eq hfin)
def XPort.sc (x : XPort) : Nat := 0 + x.R.Buf.length + x.A.Buf.length + x.S.Buf.length
theorem mkPort (x : XPort) (n : Int) (h0 : 0 ≤ n) (h1 : n + x.sc ≤ 4611686018427387904) : ∃ (q1 q2 q3 : List (List PV)), MarkC Try.prog 14 x.v n (.agg [.int .i64 x.Kind, .sl 1 q1, .int .i64 x.R.Last, .bool x.R.Bad, .int .i64 x.R.Half, .int .i64 x.R.Whole, .sl 1 q2, .bool x.A.Open, .int .i64 x.A.Last, .int .i64 x.A.Wait, .sl 1 q3, .bool x.S.Shut, .int .i64 x.Errors]) (n + x.sc) ∧ PureC Try.prog 23 [.agg [.int .i64 x.Kind, .sl 1 q1, .int .i64 x.R.Last, .bool x.R.Bad, .int .i64 x.R.Half, .int .i64 x.R.Whole, .sl 1 q2, .bool x.A.Open, .int .i64 x.A.Last, .int .i64 x.A.Wait, .sl 1 q3, .bool x.S.Shut, .int .i64 x.Errors], i64v n] [i64v (n + x.sc)] := by
  unfold XPort.sc at *
  have h_0 : n = n + ((0 : Nat) : Int) := by omega
  obtain ⟨q1, M1, H1⟩ := mkRtu x.R (n) (by rw [h_0]; omega) (by rw [h_0]; unfold XRtu.sc; omega)
  generalize hc1 : (n) + ((_ : Nat) : Int) = c1 at M1 H1
  have h_1 : c1 = n + ((0 + (0 + x.R.Buf.length) : Nat) : Int) := by rw [← hc1, h_0]; unfold XRtu.sc; push_cast; omega
  obtain ⟨q2, M2, H2⟩ := mkAscii x.A (c1) (by rw [h_1]; omega) (by rw [h_1]; unfold XAscii.sc; omega)
  generalize hc2 : (c1) + ((_ : Nat) : Int) = c2 at M2 H2
  have h_2 : c2 = n + ((0 + (0 + x.R.Buf.length) + (0 + x.A.Buf.length) : Nat) : Int) := by rw [← hc2, h_1]; unfold XAscii.sc; push_cast; omega
  obtain ⟨q3, M3, H3⟩ := mkStream x.S (c2) (by rw [h_2]; omega) (by rw [h_2]; unfold XStream.sc; omega)
  generalize hc3 : (c2) + ((_ : Nat) : Int) = c3 at M3 H3
  have h_3 : c3 = n + ((0 + (0 + x.R.Buf.length) + (0 + x.A.Buf.length) + (0 + x.S.Buf.length) : Nat) : Int) := by rw [← hc3, h_2]; unfold XStream.sc; push_cast; omega
  have hfin : c3 = n + ((0 + x.R.Buf.length + x.A.Buf.length + x.S.Buf.length : Nat) : Int) := by rw [h_3]; try omega
  refine ⟨q1, q2, q3, ?_, ?_⟩
  · refine markC_of (Γ := lookT tbl) (il := ilist) tg drD Try.func14 rfl (by kernel_rfl) rfl (Nat.le_of_ble_eq_true rfl) (Nat.le_of_ble_eq_true rfl) rfl ?_
    conv => whnf
    refine mark_i M1 rfl ?_
    conv => whnf
    refine mark_i M2 rfl ?_
    conv => whnf
    refine mark_i M3 rfl ?_
    conv => whnf
    exact ⟨i64s_eq hfin, rfl, ⟨_, _, rfl, rfl⟩, rfl, rfl, rfl, rfl, ⟨_, _, rfl, rfl⟩, rfl, rfl, rfl, ⟨_, _, rfl, rfl⟩, rfl, rfl, trivial⟩
  · refine pureC_of (Γ := lookT tbl) (il := ilist) tg dr Try.func23 rfl (by kernel_rfl) rfl (Nat.le_of_ble_eq_true rfl) ?_
    conv => whnf
    refine call_i H1 ?_
    conv => whnf
    refine br_i (fun h => absurd (dlt h) (by omega)) (fun h => ?_)
    conv => whnf
    refine call_i H2 ?_
    conv => whnf
    refine br_i (fun h => absurd (dlt h) (by omega)) (fun h => ?_)
    conv => whnf
    refine call_i H3 ?_
    conv => whnf
    refine br_i (fun h => absurd (dlt h) (by omega)) (fun h => ?_)
    conv => whnf
    exact leaf_i rfl rfl (i64l_eq hfin)
def XBox.sc (x : XBox) : Nat := 0 + x.Pdu.length
theorem mkBox (x : XBox) (n : Int) (h0 : 0 ≤ n) (h1 : n + x.sc ≤ 4611686018427387904) : ∃ (q1 : List (List PV)), MarkC Try.prog 15 x.v n (.agg [.int .i64 x.Number, .int .i64 x.Unit, .sl 1 q1]) (n + x.sc) := by
  unfold XBox.sc at *
  have h_0 : n = n + ((0 : Nat) : Int) := by omega
  obtain ⟨q1, M1, H1⟩ := mkByteS x.Pdu (n) (by rw [h_0]; omega) (by rw [h_0]; omega)
  generalize hc1 : (n) + ((_ : Nat) : Int) = c1 at M1 H1
  have h_1 : c1 = n + ((0 + x.Pdu.length : Nat) : Int) := by rw [← hc1, h_0]; push_cast; omega
  have hfin : c1 = n + ((0 + x.Pdu.length : Nat) : Int) := by rw [h_1]; try omega
  refine ⟨q1, ?_⟩
  · refine markC_of (Γ := lookT tbl) (il := ilist) tg drD Try.func15 rfl (by kernel_rfl) rfl (Nat.le_of_ble_eq_true rfl) (Nat.le_of_ble_eq_true rfl) rfl ?_
    conv => whnf
    refine mark_i M1 rfl ?_
    conv => whnf
    exact ⟨i64s_eq hfin, rfl, rfl, ⟨_, _, rfl, rfl⟩, trivial⟩
def XBox.mc (x : XBox) : Nat := 2 + x.Pdu.length
theorem mkBoxS (l : List XBox) : MkS Try.prog 22 24 3 (l.map XBox.ps) (sumF XBox.mc l) := by
  intro n h0 h1
  obtain ⟨N, ys, R, hlen, hN0, hN1, hyl, hR0, hR1, hRl, hst⟩ := chain XBox.ps XBox.mc (fun x n el => ∃ (q1 : List (List PV)) (m1 : Int), el = [.int .i64 (n), .int .i64 (w64 (n + 1)), .sl 1 q1] ∧ MarkC Try.prog 16 (.one (.sl 1 (x.Pdu.map byteEl))) (w64 (w64 (n + 1) + 1)) (.one (.sl 1 q1)) m1 ∧ PureC Try.prog 17 [.one (.sl 1 q1), i64v (w64 (w64 (n + 1) + 1))] [i64v m1] ∧ 0 ≤ m1 ∧ m1 = n + (XBox.mc x : Nat)) l n h0 h1 (by intro x; simp [XBox.mc]; try omega) (by
      intro x hx n h0 h1
      unfold XBox.mc at h1 ⊢
      have h_0 : n = n + ((0 : Nat) : Int) := by omega
      have h_1 : w64 (n + 1) = n + ((0 + 1 : Nat) : Int) := by rw [h_0]; exact (wrap_ok (by omega) (by omega)).trans (by omega)
      have h_2 : w64 (w64 (n + 1) + 1) = n + ((0 + 1 + 1 : Nat) : Int) := by rw [h_1]; exact (wrap_ok (by omega) (by omega)).trans (by omega)
      obtain ⟨q1, M1, H1⟩ := mkByteS x.Pdu (w64 (w64 (n + 1) + 1)) (by rw [h_2]; omega) (by rw [h_2]; omega)
      generalize hc1 : (w64 (w64 (n + 1) + 1)) + _ = c1 at M1 H1
      have h_3 : c1 = n + ((0 + 1 + 1 + x.Pdu.length : Nat) : Int) := by rw [← hc1, h_2]; push_cast; omega
      exact ⟨_, q1, c1, rfl, M1, H1, by omega, by rw [h_3]; try omega⟩)
  refine ⟨ys, ?_, ?_⟩
  · rw [← hN1, ← hR1, ← hR0]
    refine markC_of (Γ := lookT tbl) (il := ilist) tg drD Try.func22 rfl (by kernel_rfl) rfl (Nat.le_of_ble_eq_true rfl) (Nat.le_of_ble_eq_true rfl) rfl ?_
    conv => whnf
    refine loop_i (fun k : Nat => ⟨envL [(0, .c (.row 0)), (1, .c (.pv (.int .i64 (N k)))), (5, .c (.pv (.int .i64 k)))], resL [(0, .row true 3 (R k))], 64, 34⟩) (fun k => k ≤ l.length) (fun k => l.length - k) 0 (Nat.zero_le _) (le_mkD rfl ⟨⟨rfl, rfl⟩, ⟨i64_eq hN0.symm, rfl⟩, ⟨rfl, rfl⟩, trivial⟩ ⟨⟨rfl, rfl⟩, trivial⟩ rfl rfl) ?_
    intro k hk
    conv => whnf
    refine br_i (fun h => ?_) (fun h => ?_)
    · have hlt : k < l.length := by simpa [hRl k hk] using h
      obtain ⟨hNs, hn0, hn1, el, ⟨q1, m1, rfl, M1, H1, P1, hfin⟩, hy, hget, hset⟩ := hst k hlt
      have hlm : k < (R k).length := by rw [hRl k hk]; exact hlt
      conv => whnf
      refine ⟨k, ⟨⟨rfl, hlm⟩, rfl⟩, ?_⟩
      conv => whnf
      refine ⟨(R k).set k [.int .i64 (N k), .int .i64 l[k].Unit, bytesP l[k].Pdu], ⟨rfl, hlm, by decide, st0 hget rfl⟩, ?_⟩
      conv => whnf
      refine ⟨k, ⟨⟨rfl, ln1 hlm⟩, rfl⟩, ?_⟩
      conv => whnf
      refine ⟨(R k).set k [.int .i64 (N k), .int .i64 (w64 (N k + 1)), bytesP l[k].Pdu], ⟨rfl, ln1 hlm, by decide, st1 hlm rfl⟩, ?_⟩
      conv => whnf
      refine ⟨k, ⟨⟨rfl, ln1 hlm⟩, rfl⟩, ?_⟩
      conv => whnf
      refine ⟨_, _, q1, m1, (R k).set k [.int .i64 (N k), .int .i64 (w64 (N k + 1)), .sl 1 q1], ⟨⟨⟨rfl, at1 hlm rfl⟩, M1⟩, st1 hlm rfl⟩, ?_⟩
      conv => whnf
      exact ⟨k + 1, ⟨hlt, by omega⟩, le_mkD rfl ⟨⟨rfl, rfl⟩, ⟨i64_eq (hfin.trans hNs.symm), rfl⟩, ⟨ctr (by omega), rfl⟩, trivial⟩ ⟨⟨row_eq hset, rfl⟩, trivial⟩ rfl rfl⟩
    · have hk2 : k = l.length := by simp [hRl k hk] at h; omega
      subst hk2
      conv => whnf
      exact ⟨rfl, ⟨_, _, rfl, rfl⟩, trivial⟩
  · rw [← hN1]
    refine pureC_of (Γ := lookT tbl) (il := ilist) tg dr Try.func24 rfl (by kernel_rfl) rfl (Nat.le_of_ble_eq_true rfl) ?_
    conv => whnf
    refine loop_i (fun k : Nat => ⟨envL [(0, .c (.pv (.sl 3 ys))), (1, .c (.pv (.int .i64 (N k)))), (5, .c (.pv (.int .i64 k)))], resL [], 0, 40⟩) (fun k => k ≤ l.length) (fun k => l.length - k) 0 (Nat.zero_le _) (le_mk [] rfl ⟨⟨rfl, rfl⟩, ⟨i64_eq hN0.symm, rfl⟩, ⟨rfl, rfl⟩, trivial⟩ trivial rfl) ?_
    intro k hk
    conv => whnf
    refine br_i (fun h => ?_) (fun h => ?_)
    · have hlt : k < l.length := by simpa [hyl] using h
      obtain ⟨hNs, hn0, hn1, el, ⟨q1, m1, rfl, M1, H1, P1, hfin⟩, hy, hget, hset⟩ := hst k hlt
      have hix : (0 ≤ (k : Int) ∧ ys[(k : Int).toNat]? = some [.int .i64 (N k), .int .i64 (w64 (N k + 1)), .sl 1 q1]) ∧ 3 = 3 := ⟨⟨by omega, hy⟩, rfl⟩
      conv => whnf
      refine ⟨_, hix, ?_⟩
      conv => whnf
      refine br_i (fun h => absurd h (by simp)) (fun h => ?_)
      conv => whnf
      refine ⟨_, hix, ?_⟩
      conv => whnf
      refine br_i (fun h => absurd h (by simp)) (fun h => ?_)
      conv => whnf
      refine ⟨_, hix, ?_⟩
      conv => whnf
      refine call_i H1 ?_
      conv => whnf
      refine br_i (fun h => absurd (dlt h) (by omega)) (fun h => ?_)
      conv => whnf
      exact ⟨k + 1, ⟨hlt, by omega⟩, le_mk [] rfl ⟨⟨rfl, rfl⟩, ⟨i64_eq (hfin.trans hNs.symm), rfl⟩, ⟨ctr (by omega), rfl⟩, trivial⟩ trivial rfl⟩
    · have hk2 : k = l.length := by simp [hyl] at h; omega
      subst hk2
      conv => whnf
      exact leaf_i rfl rfl rfl
end Go.Proofs.Ytoccphgempbdeaa
