/- The laws' helpers: measure, copy, compare. -/
import Derived.Test.YtjjfjeoajhdlcaaXMod
namespace Go.Proofs.Ytjjfjeoajhdlcaa
open Go Go.Vi
set_option linter.unusedVariables false
set_option linter.unusedSimpArgs false
set_option maxRecDepth 100000
theorem szByteS (l : List Int) (n : Int) (h0 : 0 ≤ n) (h1 : n ≤ 1048576) : PureC Try.prog 57 [bytesV l, i64v n] [i64v (sub n (l.length))] := by
  refine pureC_fit ⟨_, Try.func57, by kernel_rfl, rfl⟩ fun hf => ?_
  have hl : l.length ≤ 9223372036854775807 := fits_len (hf (bytesV l) (by simp))
  refine pureC_of (Γ := lookT tbl) (il := ilist) tg dr Try.func57 rfl (by kernel_rfl) rfl (Nat.le_of_ble_eq_true rfl) ?_
  have hw : IntKind.i64.wrap (n - (l.map byteEl).length) = n - l.length := by rw [List.length_map]; exact wrap_ok (by omega) (by omega)
  (repeat' ((conv => whnf); first | refine br_i (fun _ => ?_) (fun _ => ?_) | (refine cur_leaf rfl rfl rfl ?_ ?_; · first | assumption | omega | (simp_all; done)) | refine leaf_i rfl rfl ?_ | refine And.intro rfl ?_ | (refine And.intro ?_ ?_; · decide)))
  all_goals simp only [hw] at *
  · rename_i h; rw [sub_lt (by have := dlt h; omega)]; rfl
  · rename_i h; rw [sub_ge (by have := dge h; omega)]; rfl
theorem szStream (x : XStream) (n : Int) (h0 : 0 ≤ n) (h1 : n ≤ 1048576) : PureC Try.prog 15 [x.v, i64v n] [i64v (sub n x.tot)] := by
  refine pureC_of (Γ := lookT tbl) (il := ilist) tg dr Try.func15 rfl (by kernel_rfl) rfl (Nat.le_of_ble_eq_true rfl) ?_
  conv => whnf
  refine call_i (szByteS x.Buf _ (by omega) (by omega)) ?_
  conv => whnf
  refine br_i (fun h => ?_) (fun h => ?_) <;> conv => whnf
  · refine leaf_i rfl rfl ?_
    rw [sub_lt (show n < x.tot by have := sub_neg (dlt h) (by omega); unfold XStream.tot; omega)]; rfl
  have h := sub_nn (dge h)
  refine leaf_i rfl rfl ?_
  rw [sub_ge (show (x.tot : Int) ≤ n by unfold XStream.tot; omega)]
  show [i64v _] = [i64v _]
  congr 2
  unfold XStream.tot
  omega
theorem toByteS (l : List Int) (hl : l.length ≤ 1048576) : PureC Try.prog 35 [bytesV l] [bytesV l] := by
  refine pureC_of (Γ := lookT tbl) (il := ilist) tg dr Try.func35 rfl (by kernel_rfl) rfl (Nat.le_of_ble_eq_true rfl) ?_
  conv => whnf
  refine ⟨l.length, (fillK 0 l 0).map byteEl, ⟨⟨⟨by simp, by simp⟩, by show 1 * _ ≤ _; omega, by decide⟩, by rw [fillK_zero, List.map_replicate]; rfl⟩, ?_⟩
  conv => whnf
  refine loop_i (fun k : Nat => ⟨envL [(0, .c (.pv (bytesP l))), (3, .c (.row 0)), (4, .c (.pv (.int .i64 k)))], resL [(0, .row true 1 ((fillK 0 l k).map byteEl))], 1, 22⟩) (fun k => k ≤ l.length) (fun k => l.length - k) 0 (Nat.zero_le _) (le_mk [(0, 3072)] rfl ⟨⟨rfl, rfl⟩, ⟨rfl, rfl⟩, ⟨rfl, rfl⟩, trivial⟩ ⟨⟨rfl, rfl⟩, trivial⟩ rfl) ?_
  intro k hk
  conv => whnf
  refine br_i (fun h => ?_) (fun h => ?_)
  · have hlt : k < l.length := by simpa using h
    conv => whnf
    refine ⟨_, idx_map l byteEl k hlt 1, ?_⟩
    conv => whnf
    refine ⟨k, ⟨⟨rfl, by simp [fillK_len _ l k hk]; exact hlt⟩, rfl⟩, ?_⟩
    conv => whnf
    refine ⟨(fillK 0 l (k + 1)).map byteEl, ⟨rfl, by simp [fillK_len _ l k hk]; exact hlt, by decide, by rw [← fillK_set 0 l k hlt]; exact set_map (PV.int .u8) _ k _⟩, ?_⟩
    conv => whnf
    exact ⟨k + 1, ⟨hlt, by omega⟩, le_mk [] rfl ⟨⟨rfl, rfl⟩, ⟨rfl, rfl⟩, ⟨ctr (by omega), rfl⟩, trivial⟩ ⟨⟨rfl, rfl⟩, trivial⟩ rfl⟩
  · have hk : k = l.length := by simp at h; omega
    subst hk
    conv => whnf
    refine leaf_i rfl rfl ?_
    rw [fillK_all]
    rfl
theorem toStream (x : XStream) (h : x.tot ≤ 1048576) : PureC Try.prog 17 [x.v] [x.v] := by
  refine pureC_of (Γ := lookT tbl) (il := ilist) tg dr Try.func17 rfl (by kernel_rfl) rfl (Nat.le_of_ble_eq_true rfl) ?_
  unfold XStream.tot at h
  conv => whnf
  refine call_i (toByteS x.Buf (by omega)) ?_
  conv => whnf
  exact leaf_i rfl rfl rfl
theorem eqByteS (l m : List Int) : PureC Try.prog 37 [bytesV l, bytesV m] [boolv (decide (l = m))] := by
  refine pureC_fit ⟨_, Try.func37, by kernel_rfl, rfl⟩ fun hf => ?_
  have hl : l.length ≤ 9223372036854775807 := fits_len (hf (bytesV l) (by simp))
  refine pureC_of (Γ := lookT tbl) (il := ilist) tg dr Try.func37 rfl (by kernel_rfl) rfl (Nat.le_of_ble_eq_true rfl) ?_
  conv => whnf
  refine br_i (fun h => ?_) (fun h => ?_) <;> conv => whnf
  · refine leaf_i rfl rfl ?_
    have : l ≠ m := fun e => by subst e; simp at h
    simp [boolv, this]
  have hlen : l.length = m.length := by simp at h; omega
  refine loop_i (fun k : Nat => ⟨envL [(0, .c (.pv (bytesP l))), (1, .c (.pv (bytesP m))), (5, .c (.pv (.int .i64 k)))], resL [], 0, 26⟩) (fun k => k ≤ l.length ∧ l.take k = m.take k) (fun k => l.length - k) 0 ⟨Nat.zero_le _, rfl⟩ (le_mk [] rfl ⟨⟨rfl, rfl⟩, ⟨rfl, rfl⟩, ⟨rfl, rfl⟩, trivial⟩ trivial rfl) ?_
  intro k ⟨hk, hs⟩
  conv => whnf
  refine br_i (fun h => ?_) (fun h => ?_)
  · have hlt : k < l.length := by simpa using h
    have hlt2 : k < m.length := by omega
    conv => whnf
    refine ⟨_, idx_map l byteEl k hlt 1, ?_⟩
    conv => whnf
    refine ⟨_, idx_map m byteEl k hlt2 1, ?_⟩
    conv => whnf
    try refine And.intro rfl ?_
    conv => whnf
    refine br_i (fun h => ?_) (fun h => ?_) <;> conv => whnf
    · refine leaf_i rfl rfl ?_
      have : l ≠ m := ne_of_get hlt hlt2 (by simpa using h)
      simp [boolv, this]
    · exact ⟨k + 1, ⟨⟨hlt, take_eq_succ hs hlt hlt2 (by simpa using h)⟩, by omega⟩, le_mk [] rfl ⟨⟨rfl, rfl⟩, ⟨rfl, rfl⟩, ⟨ctr (by omega), rfl⟩, trivial⟩ trivial rfl⟩
  · have hk : l.length ≤ k := by simpa using h
    conv => whnf
    refine leaf_i rfl rfl ?_
    have : l = m := take_eq_all hs hk hlen.symm
    simp [boolv, this]
theorem eqStream (x y : XStream) : PureC Try.prog 19 [x.v, y.v] [boolv (decide (x = y))] := by
  refine pureC_of (Γ := lookT tbl) (il := ilist) tg dr Try.func19 rfl (by kernel_rfl) rfl (Nat.le_of_ble_eq_true rfl) ?_
  (repeat' ((conv => whnf); first | refine br_i (fun _ => ?_) (fun _ => ?_) | (refine cur_leaf rfl rfl rfl ?_ ?_; · first | assumption | omega | (simp_all; done)) | refine leaf_i rfl rfl ?_ | refine And.intro rfl ?_ | refine call_i (eqByteS x.Buf y.Buf) ?_ | refine Or.inl (call_i (eqByteS x.Buf y.Buf) ?_) | (refine And.intro ?_ ?_; · decide)))
  all_goals (cases x; cases y; (refine bool_leaf ?_; first | (simp_all []; done) | (simp_all []; omega)))
theorem szAscii (x : XAscii) (n : Int) (h0 : 0 ≤ n) (h1 : n ≤ 1048576) : PureC Try.prog 20 [x.v, i64v n] [i64v (sub n x.tot)] := by
  refine pureC_of (Γ := lookT tbl) (il := ilist) tg dr Try.func20 rfl (by kernel_rfl) rfl (Nat.le_of_ble_eq_true rfl) ?_
  conv => whnf
  refine call_i (szByteS x.Buf _ (by omega) (by omega)) ?_
  conv => whnf
  refine br_i (fun h => ?_) (fun h => ?_) <;> conv => whnf
  · refine leaf_i rfl rfl ?_
    rw [sub_lt (show n < x.tot by have := sub_neg (dlt h) (by omega); unfold XAscii.tot; omega)]; rfl
  have h := sub_nn (dge h)
  refine leaf_i rfl rfl ?_
  rw [sub_ge (show (x.tot : Int) ≤ n by unfold XAscii.tot; omega)]
  show [i64v _] = [i64v _]
  congr 2
  unfold XAscii.tot
  omega
theorem toAscii (x : XAscii) (h : x.tot ≤ 1048576) : PureC Try.prog 22 [x.v] [x.v] := by
  refine pureC_of (Γ := lookT tbl) (il := ilist) tg dr Try.func22 rfl (by kernel_rfl) rfl (Nat.le_of_ble_eq_true rfl) ?_
  unfold XAscii.tot at h
  conv => whnf
  refine call_i (toByteS x.Buf (by omega)) ?_
  conv => whnf
  exact leaf_i rfl rfl rfl
theorem eqAscii (x y : XAscii) : PureC Try.prog 24 [x.v, y.v] [boolv (decide (x = y))] := by
  refine pureC_of (Γ := lookT tbl) (il := ilist) tg dr Try.func24 rfl (by kernel_rfl) rfl (Nat.le_of_ble_eq_true rfl) ?_
  (repeat' ((conv => whnf); first | refine br_i (fun _ => ?_) (fun _ => ?_) | (refine cur_leaf rfl rfl rfl ?_ ?_; · first | assumption | omega | (simp_all; done)) | refine leaf_i rfl rfl ?_ | refine And.intro rfl ?_ | refine call_i (eqByteS x.Buf y.Buf) ?_ | refine Or.inl (call_i (eqByteS x.Buf y.Buf) ?_) | (refine And.intro ?_ ?_; · decide)))
  all_goals (cases x; cases y; (refine bool_leaf ?_; first | (simp_all []; done) | (simp_all []; omega)))
theorem szRuleS (l : List XRule) (n : Int) (h0 : 0 ≤ n) (h1 : n ≤ 1048576) : PureC Try.prog 29 [XRule.sV l, i64v n] [i64v (sub n (l.length))] := by
  refine pureC_fit ⟨_, Try.func29, by kernel_rfl, rfl⟩ fun hf => ?_
  have hl : l.length ≤ 9223372036854775807 := fits_len (hf (XRule.sV l) (by simp))
  refine pureC_of (Γ := lookT tbl) (il := ilist) tg dr Try.func29 rfl (by kernel_rfl) rfl (Nat.le_of_ble_eq_true rfl) ?_
  have hw : IntKind.i64.wrap (n - (l.map XRule.ps).length) = n - l.length := by rw [List.length_map]; exact wrap_ok (by omega) (by omega)
  (repeat' ((conv => whnf); first | refine br_i (fun _ => ?_) (fun _ => ?_) | (refine cur_leaf rfl rfl rfl ?_ ?_; · first | assumption | omega | (simp_all; done)) | refine leaf_i rfl rfl ?_ | refine And.intro rfl ?_ | (refine And.intro ?_ ?_; · decide)))
  all_goals simp only [hw] at *
  · rename_i h; rw [sub_lt (by have := dlt h; omega)]; rfl
  · rename_i h; rw [sub_ge (by have := dge h; omega)]; rfl
theorem toRule (x : XRule) : PureC Try.prog 62 [x.v] [x.v] := by
  refine pureC_of (Γ := lookT tbl) (il := ilist) tg dr Try.func62 rfl (by kernel_rfl) rfl (Nat.le_of_ble_eq_true rfl) ?_
  conv => whnf
  exact leaf_i rfl rfl rfl
theorem toRuleS (l : List XRule) (hl : l.length ≤ 1048576) : PureC Try.prog 31 [XRule.sV l] [XRule.sV l] := by
  refine pureC_of (Γ := lookT tbl) (il := ilist) tg dr Try.func31 rfl (by kernel_rfl) rfl (Nat.le_of_ble_eq_true rfl) ?_
  conv => whnf
  refine ⟨l.length, (fillK XRule.zero l 0).map XRule.ps, ⟨⟨⟨by simp, by simp⟩, by show 56 * _ ≤ _; omega, by decide⟩, by rw [fillK_zero, List.map_replicate]; rfl⟩, ?_⟩
  conv => whnf
  refine loop_i (fun k : Nat => ⟨envL [(0, .c (.pv (XRule.sP l))), (3, .c (.row 0)), (4, .c (.pv (.int .i64 k)))], resL [(0, .row true 7 ((fillK XRule.zero l k).map XRule.ps))], 1, 23⟩) (fun k => k ≤ l.length) (fun k => l.length - k) 0 (Nat.zero_le _) (le_mk [(0, 3072)] rfl ⟨⟨rfl, rfl⟩, ⟨rfl, rfl⟩, ⟨rfl, rfl⟩, trivial⟩ ⟨⟨rfl, rfl⟩, trivial⟩ rfl) ?_
  intro k hk
  conv => whnf
  refine br_i (fun h => ?_) (fun h => ?_)
  · have hlt : k < l.length := by simpa using h
    conv => whnf
    refine ⟨_, idx_map l XRule.ps k hlt 7, ?_⟩
    conv => whnf
    refine call_i (toRule l[k]) ?_
    conv => whnf
    refine ⟨k, ⟨⟨rfl, by simp [fillK_len _ l k hk]; exact hlt⟩, rfl⟩, ?_⟩
    conv => whnf
    refine ⟨(fillK XRule.zero l (k + 1)).map XRule.ps, ⟨⟨rfl, by simp [fillK_len _ l k hk]; exact hlt, Nat.le_of_ble_eq_true rfl⟩, fill_el XRule.zero l k XRule.ps 7 (fun _ => rfl) hlt⟩, ?_⟩
    conv => whnf
    exact ⟨k + 1, ⟨hlt, by omega⟩, le_mk [] rfl ⟨⟨rfl, rfl⟩, ⟨rfl, rfl⟩, ⟨ctr (by omega), rfl⟩, trivial⟩ ⟨⟨rfl, rfl⟩, trivial⟩ rfl⟩
  · have hk : k = l.length := by simp at h; omega
    subst hk
    conv => whnf
    refine leaf_i rfl rfl ?_
    rw [fillK_all]
    rfl
theorem eqRule (x y : XRule) : PureC Try.prog 65 [x.v, y.v] [boolv (decide (x = y))] := by
  refine pureC_of (Γ := lookT tbl) (il := ilist) tg dr Try.func65 rfl (by kernel_rfl) rfl (Nat.le_of_ble_eq_true rfl) ?_
  (repeat' ((conv => whnf); first | refine br_i (fun _ => ?_) (fun _ => ?_) | (refine cur_leaf rfl rfl rfl ?_ ?_; · first | assumption | omega | (simp_all; done)) | refine leaf_i rfl rfl ?_ | refine And.intro rfl ?_ | (refine And.intro ?_ ?_; · decide)))
  all_goals (cases x; cases y; (refine bool_leaf ?_; first | (simp_all []; done) | (simp_all []; omega)))
theorem eqRuleS (l m : List XRule) : PureC Try.prog 33 [XRule.sV l, XRule.sV m] [boolv (decide (l = m))] := by
  refine pureC_fit ⟨_, Try.func33, by kernel_rfl, rfl⟩ fun hf => ?_
  have hl : l.length ≤ 9223372036854775807 := fits_len (hf (XRule.sV l) (by simp))
  refine pureC_of (Γ := lookT tbl) (il := ilist) tg dr Try.func33 rfl (by kernel_rfl) rfl (Nat.le_of_ble_eq_true rfl) ?_
  conv => whnf
  refine br_i (fun h => ?_) (fun h => ?_) <;> conv => whnf
  · refine leaf_i rfl rfl ?_
    have : l ≠ m := fun e => by subst e; simp at h
    simp [boolv, this]
  have hlen : l.length = m.length := by simp at h; omega
  refine loop_i (fun k : Nat => ⟨envL [(0, .c (.pv (XRule.sP l))), (1, .c (.pv (XRule.sP m))), (5, .c (.pv (.int .i64 k)))], resL [], 0, 27⟩) (fun k => k ≤ l.length ∧ l.take k = m.take k) (fun k => l.length - k) 0 ⟨Nat.zero_le _, rfl⟩ (le_mk [] rfl ⟨⟨rfl, rfl⟩, ⟨rfl, rfl⟩, ⟨rfl, rfl⟩, trivial⟩ trivial rfl) ?_
  intro k ⟨hk, hs⟩
  conv => whnf
  refine br_i (fun h => ?_) (fun h => ?_)
  · have hlt : k < l.length := by simpa using h
    have hlt2 : k < m.length := by omega
    conv => whnf
    refine ⟨_, idx_map l XRule.ps k hlt 7, ?_⟩
    conv => whnf
    refine ⟨_, idx_map m XRule.ps k hlt2 7, ?_⟩
    conv => whnf
    refine call_i (eqRule l[k] m[k]) ?_
    conv => whnf
    try refine And.intro rfl ?_
    conv => whnf
    refine br_i (fun h => ?_) (fun h => ?_) <;> conv => whnf
    · refine leaf_i rfl rfl ?_
      have : l ≠ m := ne_of_get hlt hlt2 (by simpa using h)
      simp [boolv, this]
    · exact ⟨k + 1, ⟨⟨hlt, take_eq_succ hs hlt hlt2 (by simpa using h)⟩, by omega⟩, le_mk [] rfl ⟨⟨rfl, rfl⟩, ⟨rfl, rfl⟩, ⟨ctr (by omega), rfl⟩, trivial⟩ trivial rfl⟩
  · have hk : l.length ≤ k := by simpa using h
    conv => whnf
    refine leaf_i rfl rfl ?_
    have : l = m := take_eq_all hs hk hlen.symm
    simp [boolv, this]
theorem szConfig (x : XConfig) (n : Int) (h0 : 0 ≤ n) (h1 : n ≤ 1048576) : PureC Try.prog 50 [x.v, i64v n] [i64v (sub n x.tot)] := by
  refine pureC_of (Γ := lookT tbl) (il := ilist) tg dr Try.func50 rfl (by kernel_rfl) rfl (Nat.le_of_ble_eq_true rfl) ?_
  conv => whnf
  refine call_i (szRuleS x.Rules _ (by omega) (by omega)) ?_
  conv => whnf
  refine br_i (fun h => ?_) (fun h => ?_) <;> conv => whnf
  · refine leaf_i rfl rfl ?_
    rw [sub_lt (show n < x.tot by have := sub_neg (dlt h) (by omega); unfold XConfig.tot; omega)]; rfl
  have h := sub_nn (dge h)
  refine leaf_i rfl rfl ?_
  rw [sub_ge (show (x.tot : Int) ≤ n by unfold XConfig.tot; omega)]
  show [i64v _] = [i64v _]
  congr 2
  unfold XConfig.tot
  omega
theorem toConfig (x : XConfig) (h : x.tot ≤ 1048576) : PureC Try.prog 52 [x.v] [x.v] := by
  refine pureC_of (Γ := lookT tbl) (il := ilist) tg dr Try.func52 rfl (by kernel_rfl) rfl (Nat.le_of_ble_eq_true rfl) ?_
  unfold XConfig.tot at h
  conv => whnf
  refine call_i (toRuleS x.Rules (by omega)) ?_
  conv => whnf
  exact leaf_i rfl rfl rfl
theorem eqConfig (x y : XConfig) : PureC Try.prog 54 [x.v, y.v] [boolv (decide (x = y))] := by
  refine pureC_of (Γ := lookT tbl) (il := ilist) tg dr Try.func54 rfl (by kernel_rfl) rfl (Nat.le_of_ble_eq_true rfl) ?_
  (repeat' ((conv => whnf); first | refine br_i (fun _ => ?_) (fun _ => ?_) | (refine cur_leaf rfl rfl rfl ?_ ?_; · first | assumption | omega | (simp_all; done)) | refine leaf_i rfl rfl ?_ | refine And.intro rfl ?_ | refine call_i (eqRuleS x.Rules y.Rules) ?_ | refine Or.inl (call_i (eqRuleS x.Rules y.Rules) ?_) | (refine And.intro ?_ ?_; · decide)))
  all_goals (cases x; cases y; (refine bool_leaf ?_; first | (simp_all []; done) | (simp_all []; omega)))
end Go.Proofs.Ytjjfjeoajhdlcaa
