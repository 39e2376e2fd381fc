/- The laws' helpers: measure, copy, compare. -/
import Derived.Test.YtfpcgomngnfdeaaXMod
namespace Go.Proofs.Ytfpcgomngnfdeaa
open Go Go.Vi
set_option linter.unusedVariables false
set_option linter.unusedSimpArgs false
set_option maxRecDepth 100000
theorem szRuleS (l : List XRule) (n : Int) (h0 : 0 ≤ n) (h1 : n ≤ 1048576) : PureC Try.prog 13 [XRule.sV l, i64v n] [i64v (sub n (l.length))] := by
  refine pureC_fit ⟨_, Try.func13, by kernel_rfl, rfl⟩ fun hf => ?_
  have hl : l.length ≤ 9223372036854775807 := fits_len (hf (XRule.sV l) (by simp))
  refine pureC_of (Γ := lookT tbl) (il := ilist) tg dr Try.func13 rfl (by kernel_rfl) rfl (Nat.le_of_ble_eq_true rfl) ?_
  have hw : IntKind.i64.wrap (n - (l.map XRule.ps).length) = n - l.length := by rw [List.length_map]; exact wrap_ok (by omega) (by omega)
  (repeat' ((conv => whnf); first | refine br_i (fun _ => ?_) (fun _ => ?_) | (refine cur_leaf rfl rfl rfl ?_ ?_; · first | assumption | omega | exact hw ‹_›) | refine leaf_i rfl rfl ?_ | refine And.intro rfl ?_ | (refine And.intro ?_ ?_; · decide)))
  all_goals simp only [hw] at *
  · rename_i h; rw [sub_lt (by have := dlt h; omega)]; rfl
  · rename_i h; rw [sub_ge (by have := dge h; omega)]; rfl
theorem szConfig (x : XConfig) (n : Int) (h0 : 0 ≤ n) (h1 : n ≤ 1048576) : PureC Try.prog 4 [x.v, i64v n] [i64v (sub n x.tot)] := by
  refine pureC_of (Γ := lookT tbl) (il := ilist) tg dr Try.func4 rfl (by kernel_rfl) rfl (Nat.le_of_ble_eq_true rfl) ?_
  conv => whnf
  refine call_i (szRuleS x.Rules _ (by omega) (by omega)) ?_
  conv => whnf
  refine br_i (fun h => ?_) (fun h => ?_) <;> conv => whnf
  · refine leaf_i rfl rfl ?_
    rw [sub_lt (show n < x.tot by have := sub_neg (dlt h) (by omega); unfold XConfig.tot; omega)]; rfl
  have h := sub_nn (dge h)
  refine leaf_i rfl rfl ?_
  rw [sub_ge (show (x.tot : Int) ≤ n by unfold XConfig.tot; omega)]
  show [i64v _] = [i64v _]
  congr 2
  unfold XConfig.tot
  omega
theorem toRule (x : XRule) : PureC Try.prog 31 [x.v] [x.v] := by
  refine pureC_of (Γ := lookT tbl) (il := ilist) tg dr Try.func31 rfl (by kernel_rfl) rfl (Nat.le_of_ble_eq_true rfl) ?_
  conv => whnf
  exact leaf_i rfl rfl rfl
theorem toRuleS (l : List XRule) (hl : l.length ≤ 1048576) : PureC Try.prog 16 [XRule.sV l] [XRule.sV l] := by
  refine pureC_of (Γ := lookT tbl) (il := ilist) tg dr Try.func16 rfl (by kernel_rfl) rfl (Nat.le_of_ble_eq_true rfl) ?_
  conv => whnf
  refine ⟨l.length, (fillK XRule.zero l 0).map XRule.ps, ⟨⟨⟨by simp, by simp⟩, by show 56 * _ ≤ _; omega, by decide⟩, by rw [fillK_zero, List.map_replicate]; rfl⟩, ?_⟩
  conv => whnf
  refine loop_i (fun k : Nat => ⟨envL [(0, .c (.pv (XRule.sP l))), (3, .c (.row 0)), (4, .c (.pv (.int .i64 k)))], resL [(0, .row true 7 ((fillK XRule.zero l k).map XRule.ps))], 1, 23⟩) (fun k => k ≤ l.length) (fun k => l.length - k) 0 (Nat.zero_le _) (le_mk [(0, 3072)] rfl ⟨⟨rfl, rfl⟩, ⟨rfl, rfl⟩, ⟨rfl, rfl⟩, trivial⟩ ⟨⟨rfl, rfl⟩, trivial⟩ rfl) ?_
  intro k hk
  conv => whnf
  refine br_i (fun h => ?_) (fun h => ?_)
  · have hlt : k < l.length := by simpa using h
    conv => whnf
    refine ⟨_, idx_map l XRule.ps k hlt 7, ?_⟩
    conv => whnf
    refine call_i (toRule l[k]) ?_
    conv => whnf
    refine ⟨k, ⟨⟨rfl, by simp [fillK_len _ l k hk]; exact hlt⟩, rfl⟩, ?_⟩
    conv => whnf
    refine ⟨(fillK XRule.zero l (k + 1)).map XRule.ps, ⟨⟨rfl, by simp [fillK_len _ l k hk]; exact hlt, Nat.le_of_ble_eq_true rfl⟩, fill_el XRule.zero l k XRule.ps 7 (fun _ => rfl) hlt⟩, ?_⟩
    conv => whnf
    exact ⟨k + 1, ⟨hlt, by omega⟩, le_mk [] rfl ⟨⟨rfl, rfl⟩, ⟨rfl, rfl⟩, ⟨ctr (by omega), rfl⟩, trivial⟩ ⟨⟨rfl, rfl⟩, trivial⟩ rfl⟩
  · have hk : k = l.length := by simp at h; omega
    subst hk
    conv => whnf
    refine leaf_i rfl rfl ?_
    rw [fillK_all]
    rfl
theorem toConfig (x : XConfig) (h : x.tot ≤ 1048576) : PureC Try.prog 6 [x.v] [x.v] := by
  refine pureC_of (Γ := lookT tbl) (il := ilist) tg dr Try.func6 rfl (by kernel_rfl) rfl (Nat.le_of_ble_eq_true rfl) ?_
  unfold XConfig.tot at h
  conv => whnf
  refine call_i (toRuleS x.Rules (by omega)) ?_
  conv => whnf
  exact leaf_i rfl rfl rfl
theorem eqRule (x y : XRule) : PureC Try.prog 37 [x.v, y.v] [boolv (decide (x = y))] := by
  refine pureC_of (Γ := lookT tbl) (il := ilist) tg dr Try.func37 rfl (by kernel_rfl) rfl (Nat.le_of_ble_eq_true rfl) ?_
  (repeat' ((conv => whnf); first | refine br_i (fun _ => ?_) (fun _ => ?_) | (refine cur_leaf rfl rfl rfl ?_ ?_; · first | assumption | omega | exact hw ‹_›) | refine leaf_i rfl rfl ?_ | refine And.intro rfl ?_ | (refine And.intro ?_ ?_; · decide)))
  all_goals (cases x; cases y; (refine bool_leaf ?_; first | (simp_all []; done) | (simp_all []; omega)))
theorem eqRuleS (l m : List XRule) : PureC Try.prog 22 [XRule.sV l, XRule.sV m] [boolv (decide (l = m))] := by
  refine pureC_fit ⟨_, Try.func22, by kernel_rfl, rfl⟩ fun hf => ?_
  have hl : l.length ≤ 9223372036854775807 := fits_len (hf (XRule.sV l) (by simp))
  refine pureC_of (Γ := lookT tbl) (il := ilist) tg dr Try.func22 rfl (by kernel_rfl) rfl (Nat.le_of_ble_eq_true rfl) ?_
  conv => whnf
  refine br_i (fun h => ?_) (fun h => ?_) <;> conv => whnf
  · refine leaf_i rfl rfl ?_
    have : l ≠ m := fun e => by subst e; simp at h
    simp [boolv, this]
  have hlen : l.length = m.length := by simp at h; omega
  refine loop_i (fun k : Nat => ⟨envL [(0, .c (.pv (XRule.sP l))), (1, .c (.pv (XRule.sP m))), (5, .c (.pv (.int .i64 k)))], resL [], 0, 27⟩) (fun k => k ≤ l.length ∧ l.take k = m.take k) (fun k => l.length - k) 0 ⟨Nat.zero_le _, rfl⟩ (le_mk [] rfl ⟨⟨rfl, rfl⟩, ⟨rfl, rfl⟩, ⟨rfl, rfl⟩, trivial⟩ trivial rfl) ?_
  intro k ⟨hk, hs⟩
  conv => whnf
  refine br_i (fun h => ?_) (fun h => ?_)
  · have hlt : k < l.length := by simpa using h
    have hlt2 : k < m.length := by omega
    conv => whnf
    refine ⟨_, idx_map l XRule.ps k hlt 7, ?_⟩
    conv => whnf
    refine ⟨_, idx_map m XRule.ps k hlt2 7, ?_⟩
    conv => whnf
    refine call_i (eqRule l[k] m[k]) ?_
    conv => whnf
    try refine And.intro rfl ?_
    conv => whnf
    refine br_i (fun h => ?_) (fun h => ?_) <;> conv => whnf
    · refine leaf_i rfl rfl ?_
      have : l ≠ m := ne_of_get hlt hlt2 (by simpa using h)
      simp [boolv, this]
    · exact ⟨k + 1, ⟨⟨hlt, take_eq_succ hs hlt hlt2 (by simpa using h)⟩, by omega⟩, le_mk [] rfl ⟨⟨rfl, rfl⟩, ⟨rfl, rfl⟩, ⟨ctr (by omega), rfl⟩, trivial⟩ trivial rfl⟩
  · have hk : l.length ≤ k := by simpa using h
    conv => whnf
    refine leaf_i rfl rfl ?_
    have : l = m := take_eq_all hs hk hlen.symm
    simp [boolv, this]
theorem eqConfig (x y : XConfig) : PureC Try.prog 9 [x.v, y.v] [boolv (decide (x = y))] := by
  refine pureC_of (Γ := lookT tbl) (il := ilist) tg dr Try.func9 rfl (by kernel_rfl) rfl (Nat.le_of_ble_eq_true rfl) ?_
  (repeat' ((conv => whnf); first | refine br_i (fun _ => ?_) (fun _ => ?_) | (refine cur_leaf rfl rfl rfl ?_ ?_; · first | assumption | omega | exact hw ‹_›) | refine leaf_i rfl rfl ?_ | refine And.intro rfl ?_ | refine call_i (eqRuleS x.Rules y.Rules) ?_ | (refine Or.inl ?_; (conv => whnf); refine call_i (eqRuleS x.Rules y.Rules) ?_) | (refine And.intro ?_ ?_; · decide)))
  all_goals (cases x; cases y; (refine bool_leaf ?_; first | (simp_all []; done) | (simp_all []; omega)))
theorem eqIntS (l m : List Int) : PureC Try.prog 67 [intsV l, intsV m] [boolv (decide (l = m))] := by
  refine pureC_fit ⟨_, Try.func67, by kernel_rfl, rfl⟩ fun hf => ?_
  have hl : l.length ≤ 9223372036854775807 := fits_len (hf (intsV l) (by simp))
  refine pureC_of (Γ := lookT tbl) (il := ilist) tg dr Try.func67 rfl (by kernel_rfl) rfl (Nat.le_of_ble_eq_true rfl) ?_
  conv => whnf
  refine br_i (fun h => ?_) (fun h => ?_) <;> conv => whnf
  · refine leaf_i rfl rfl ?_
    have : l ≠ m := fun e => by subst e; simp at h
    simp [boolv, this]
  have hlen : l.length = m.length := by simp at h; omega
  refine loop_i (fun k : Nat => ⟨envL [(0, .c (.pv (intsP l))), (1, .c (.pv (intsP m))), (5, .c (.pv (.int .i64 k)))], resL [], 0, 26⟩) (fun k => k ≤ l.length ∧ l.take k = m.take k) (fun k => l.length - k) 0 ⟨Nat.zero_le _, rfl⟩ (le_mk [] rfl ⟨⟨rfl, rfl⟩, ⟨rfl, rfl⟩, ⟨rfl, rfl⟩, trivial⟩ trivial rfl) ?_
  intro k ⟨hk, hs⟩
  conv => whnf
  refine br_i (fun h => ?_) (fun h => ?_)
  · have hlt : k < l.length := by simpa using h
    have hlt2 : k < m.length := by omega
    conv => whnf
    refine ⟨_, idx_map l intEl k hlt 1, ?_⟩
    conv => whnf
    refine ⟨_, idx_map m intEl k hlt2 1, ?_⟩
    conv => whnf
    try refine And.intro rfl ?_
    conv => whnf
    refine br_i (fun h => ?_) (fun h => ?_) <;> conv => whnf
    · refine leaf_i rfl rfl ?_
      have : l ≠ m := ne_of_get hlt hlt2 (by simpa using h)
      simp [boolv, this]
    · exact ⟨k + 1, ⟨⟨hlt, take_eq_succ hs hlt hlt2 (by simpa using h)⟩, by omega⟩, le_mk [] rfl ⟨⟨rfl, rfl⟩, ⟨rfl, rfl⟩, ⟨ctr (by omega), rfl⟩, trivial⟩ trivial rfl⟩
  · have hk : l.length ≤ k := by simpa using h
    conv => whnf
    refine leaf_i rfl rfl ?_
    have : l = m := take_eq_all hs hk hlen.symm
    simp [boolv, this]
theorem eqBoolS (l m : List Bool) : PureC Try.prog 65 [boolsV l, boolsV m] [boolv (decide (l = m))] := by
  refine pureC_fit ⟨_, Try.func65, by kernel_rfl, rfl⟩ fun hf => ?_
  have hl : l.length ≤ 9223372036854775807 := fits_len (hf (boolsV l) (by simp))
  refine pureC_of (Γ := lookT tbl) (il := ilist) tg dr Try.func65 rfl (by kernel_rfl) rfl (Nat.le_of_ble_eq_true rfl) ?_
  conv => whnf
  refine br_i (fun h => ?_) (fun h => ?_) <;> conv => whnf
  · refine leaf_i rfl rfl ?_
    have : l ≠ m := fun e => by subst e; simp at h
    simp [boolv, this]
  have hlen : l.length = m.length := by simp at h; omega
  refine loop_i (fun k : Nat => ⟨envL [(0, .c (.pv (boolsP l))), (1, .c (.pv (boolsP m))), (5, .c (.pv (.int .i64 k)))], resL [], 0, 26⟩) (fun k => k ≤ l.length ∧ l.take k = m.take k) (fun k => l.length - k) 0 ⟨Nat.zero_le _, rfl⟩ (le_mk [] rfl ⟨⟨rfl, rfl⟩, ⟨rfl, rfl⟩, ⟨rfl, rfl⟩, trivial⟩ trivial rfl) ?_
  intro k ⟨hk, hs⟩
  conv => whnf
  refine br_i (fun h => ?_) (fun h => ?_)
  · have hlt : k < l.length := by simpa using h
    have hlt2 : k < m.length := by omega
    conv => whnf
    refine ⟨_, idx_map l boolEl k hlt 1, ?_⟩
    conv => whnf
    refine ⟨_, idx_map m boolEl k hlt2 1, ?_⟩
    conv => whnf
    try refine And.intro rfl ?_
    conv => whnf
    refine br_i (fun h => ?_) (fun h => ?_) <;> conv => whnf
    · refine leaf_i rfl rfl ?_
      have : l ≠ m := ne_of_get hlt hlt2 (by simpa using h)
      simp [boolv, this]
    · exact ⟨k + 1, ⟨⟨hlt, take_eq_succ hs hlt hlt2 (by simpa using h)⟩, by omega⟩, le_mk [] rfl ⟨⟨rfl, rfl⟩, ⟨rfl, rfl⟩, ⟨ctr (by omega), rfl⟩, trivial⟩ trivial rfl⟩
  · have hk : l.length ≤ k := by simpa using h
    conv => whnf
    refine leaf_i rfl rfl ?_
    have : l = m := take_eq_all hs hk hlen.symm
    simp [boolv, this]
theorem eqReq (x y : XReq) : PureC Try.prog 63 [x.v, y.v] [boolv (decide (x = y))] := by
  refine pureC_of (Γ := lookT tbl) (il := ilist) tg dr Try.func63 rfl (by kernel_rfl) rfl (Nat.le_of_ble_eq_true rfl) ?_
  (repeat' ((conv => whnf); first | refine br_i (fun _ => ?_) (fun _ => ?_) | (refine cur_leaf rfl rfl rfl ?_ ?_; · first | assumption | omega | exact hw ‹_›) | refine leaf_i rfl rfl ?_ | refine And.intro rfl ?_ | refine call_i (eqIntS x.Words y.Words) ?_ | (refine Or.inl ?_; (conv => whnf); refine call_i (eqIntS x.Words y.Words) ?_) | refine call_i (eqBoolS x.Bits y.Bits) ?_ | (refine Or.inl ?_; (conv => whnf); refine call_i (eqBoolS x.Bits y.Bits) ?_) | (refine And.intro ?_ ?_; · decide)))
  all_goals (cases x; cases y; (refine bool_leaf ?_; first | (simp_all []; done) | (simp_all []; omega)))
theorem eqPart (x y : XPart) : PureC Try.prog 68 [x.v, y.v] [boolv (decide (x = y))] := by
  refine pureC_of (Γ := lookT tbl) (il := ilist) tg dr Try.func68 rfl (by kernel_rfl) rfl (Nat.le_of_ble_eq_true rfl) ?_
  (repeat' ((conv => whnf); first | refine br_i (fun _ => ?_) (fun _ => ?_) | (refine cur_leaf rfl rfl rfl ?_ ?_; · first | assumption | omega | exact hw ‹_›) | refine leaf_i rfl rfl ?_ | refine And.intro rfl ?_ | refine call_i (eqReq x.Req y.Req) ?_ | (refine Or.inl ?_; (conv => whnf); refine call_i (eqReq x.Req y.Req) ?_) | (refine And.intro ?_ ?_; · decide)))
  all_goals (cases x; cases y; (refine bool_leaf ?_; first | (simp_all []; done) | (simp_all []; omega)))
theorem eqPartS (l m : List XPart) : PureC Try.prog 64 [XPart.sV l, XPart.sV m] [boolv (decide (l = m))] := by
  refine pureC_fit ⟨_, Try.func64, by kernel_rfl, rfl⟩ fun hf => ?_
  have hl : l.length ≤ 9223372036854775807 := fits_len (hf (XPart.sV l) (by simp))
  refine pureC_of (Γ := lookT tbl) (il := ilist) tg dr Try.func64 rfl (by kernel_rfl) rfl (Nat.le_of_ble_eq_true rfl) ?_
  conv => whnf
  refine br_i (fun h => ?_) (fun h => ?_) <;> conv => whnf
  · refine leaf_i rfl rfl ?_
    have : l ≠ m := fun e => by subst e; simp at h
    simp [boolv, this]
  have hlen : l.length = m.length := by simp at h; omega
  refine loop_i (fun k : Nat => ⟨envL [(0, .c (.pv (XPart.sP l))), (1, .c (.pv (XPart.sP m))), (5, .c (.pv (.int .i64 k)))], resL [], 0, 27⟩) (fun k => k ≤ l.length ∧ l.take k = m.take k) (fun k => l.length - k) 0 ⟨Nat.zero_le _, rfl⟩ (le_mk [] rfl ⟨⟨rfl, rfl⟩, ⟨rfl, rfl⟩, ⟨rfl, rfl⟩, trivial⟩ trivial rfl) ?_
  intro k ⟨hk, hs⟩
  conv => whnf
  refine br_i (fun h => ?_) (fun h => ?_)
  · have hlt : k < l.length := by simpa using h
    have hlt2 : k < m.length := by omega
    conv => whnf
    refine ⟨_, idx_map l XPart.ps k hlt 8, ?_⟩
    conv => whnf
    refine ⟨_, idx_map m XPart.ps k hlt2 8, ?_⟩
    conv => whnf
    refine call_i (eqPart l[k] m[k]) ?_
    conv => whnf
    try refine And.intro rfl ?_
    conv => whnf
    refine br_i (fun h => ?_) (fun h => ?_) <;> conv => whnf
    · refine leaf_i rfl rfl ?_
      have : l ≠ m := ne_of_get hlt hlt2 (by simpa using h)
      simp [boolv, this]
    · exact ⟨k + 1, ⟨⟨hlt, take_eq_succ hs hlt hlt2 (by simpa using h)⟩, by omega⟩, le_mk [] rfl ⟨⟨rfl, rfl⟩, ⟨rfl, rfl⟩, ⟨ctr (by omega), rfl⟩, trivial⟩ trivial rfl⟩
  · have hk : l.length ≤ k := by simpa using h
    conv => whnf
    refine leaf_i rfl rfl ?_
    have : l = m := take_eq_all hs hk hlen.symm
    simp [boolv, this]
theorem eqResp (x y : XResp) : PureC Try.prog 69 [x.v, y.v] [boolv (decide (x = y))] := by
  refine pureC_of (Γ := lookT tbl) (il := ilist) tg dr Try.func69 rfl (by kernel_rfl) rfl (Nat.le_of_ble_eq_true rfl) ?_
  (repeat' ((conv => whnf); first | refine br_i (fun _ => ?_) (fun _ => ?_) | (refine cur_leaf rfl rfl rfl ?_ ?_; · first | assumption | omega | exact hw ‹_›) | refine leaf_i rfl rfl ?_ | refine And.intro rfl ?_ | refine call_i (eqIntS x.Words y.Words) ?_ | (refine Or.inl ?_; (conv => whnf); refine call_i (eqIntS x.Words y.Words) ?_) | refine call_i (eqBoolS x.Bits y.Bits) ?_ | (refine Or.inl ?_; (conv => whnf); refine call_i (eqBoolS x.Bits y.Bits) ?_) | (refine And.intro ?_ ?_; · decide)))
  all_goals (cases x; cases y; (refine bool_leaf ?_; first | (simp_all []; done) | (simp_all []; omega)))
theorem eqRespS (l m : List XResp) : PureC Try.prog 66 [XResp.sV l, XResp.sV m] [boolv (decide (l = m))] := by
  refine pureC_fit ⟨_, Try.func66, by kernel_rfl, rfl⟩ fun hf => ?_
  have hl : l.length ≤ 9223372036854775807 := fits_len (hf (XResp.sV l) (by simp))
  refine pureC_of (Γ := lookT tbl) (il := ilist) tg dr Try.func66 rfl (by kernel_rfl) rfl (Nat.le_of_ble_eq_true rfl) ?_
  conv => whnf
  refine br_i (fun h => ?_) (fun h => ?_) <;> conv => whnf
  · refine leaf_i rfl rfl ?_
    have : l ≠ m := fun e => by subst e; simp at h
    simp [boolv, this]
  have hlen : l.length = m.length := by simp at h; omega
  refine loop_i (fun k : Nat => ⟨envL [(0, .c (.pv (XResp.sP l))), (1, .c (.pv (XResp.sP m))), (5, .c (.pv (.int .i64 k)))], resL [], 0, 27⟩) (fun k => k ≤ l.length ∧ l.take k = m.take k) (fun k => l.length - k) 0 ⟨Nat.zero_le _, rfl⟩ (le_mk [] rfl ⟨⟨rfl, rfl⟩, ⟨rfl, rfl⟩, ⟨rfl, rfl⟩, trivial⟩ trivial rfl) ?_
  intro k ⟨hk, hs⟩
  conv => whnf
  refine br_i (fun h => ?_) (fun h => ?_)
  · have hlt : k < l.length := by simpa using h
    have hlt2 : k < m.length := by omega
    conv => whnf
    refine ⟨_, idx_map l XResp.ps k hlt 6, ?_⟩
    conv => whnf
    refine ⟨_, idx_map m XResp.ps k hlt2 6, ?_⟩
    conv => whnf
    refine call_i (eqResp l[k] m[k]) ?_
    conv => whnf
    try refine And.intro rfl ?_
    conv => whnf
    refine br_i (fun h => ?_) (fun h => ?_) <;> conv => whnf
    · refine leaf_i rfl rfl ?_
      have : l ≠ m := ne_of_get hlt hlt2 (by simpa using h)
      simp [boolv, this]
    · exact ⟨k + 1, ⟨⟨hlt, take_eq_succ hs hlt hlt2 (by simpa using h)⟩, by omega⟩, le_mk [] rfl ⟨⟨rfl, rfl⟩, ⟨rfl, rfl⟩, ⟨ctr (by omega), rfl⟩, trivial⟩ trivial rfl⟩
  · have hk : l.length ≤ k := by simpa using h
    conv => whnf
    refine leaf_i rfl rfl ?_
    have : l = m := take_eq_all hs hk hlen.symm
    simp [boolv, this]
theorem eqPend (x y : XPend) : PureC Try.prog 52 [x.v, y.v] [boolv (decide (x = y))] := by
  refine pureC_of (Γ := lookT tbl) (il := ilist) tg dr Try.func52 rfl (by kernel_rfl) rfl (Nat.le_of_ble_eq_true rfl) ?_
  (repeat' ((conv => whnf); first | refine br_i (fun _ => ?_) (fun _ => ?_) | (refine cur_leaf rfl rfl rfl ?_ ?_; · first | assumption | omega | exact hw ‹_›) | refine leaf_i rfl rfl ?_ | refine And.intro rfl ?_ | refine call_i (eqReq x.Req y.Req) ?_ | (refine Or.inl ?_; (conv => whnf); refine call_i (eqReq x.Req y.Req) ?_) | refine call_i (eqPartS x.Parts y.Parts) ?_ | (refine Or.inl ?_; (conv => whnf); refine call_i (eqPartS x.Parts y.Parts) ?_) | refine call_i (eqBoolS x.Has y.Has) ?_ | (refine Or.inl ?_; (conv => whnf); refine call_i (eqBoolS x.Has y.Has) ?_) | refine call_i (eqRespS x.Told y.Told) ?_ | (refine Or.inl ?_; (conv => whnf); refine call_i (eqRespS x.Told y.Told) ?_) | (refine And.intro ?_ ?_; · decide)))
  all_goals (cases x; cases y; (refine bool_leaf ?_; first | (simp_all []; done) | (simp_all []; omega)))
theorem eqPendS (l m : List XPend) : PureC Try.prog 35 [XPend.sV l, XPend.sV m] [boolv (decide (l = m))] := by
  refine pureC_fit ⟨_, Try.func35, by kernel_rfl, rfl⟩ fun hf => ?_
  have hl : l.length ≤ 9223372036854775807 := fits_len (hf (XPend.sV l) (by simp))
  refine pureC_of (Γ := lookT tbl) (il := ilist) tg dr Try.func35 rfl (by kernel_rfl) rfl (Nat.le_of_ble_eq_true rfl) ?_
  conv => whnf
  refine br_i (fun h => ?_) (fun h => ?_) <;> conv => whnf
  · refine leaf_i rfl rfl ?_
    have : l ≠ m := fun e => by subst e; simp at h
    simp [boolv, this]
  have hlen : l.length = m.length := by simp at h; omega
  refine loop_i (fun k : Nat => ⟨envL [(0, .c (.pv (XPend.sP l))), (1, .c (.pv (XPend.sP m))), (5, .c (.pv (.int .i64 k)))], resL [], 0, 27⟩) (fun k => k ≤ l.length ∧ l.take k = m.take k) (fun k => l.length - k) 0 ⟨Nat.zero_le _, rfl⟩ (le_mk [] rfl ⟨⟨rfl, rfl⟩, ⟨rfl, rfl⟩, ⟨rfl, rfl⟩, trivial⟩ trivial rfl) ?_
  intro k ⟨hk, hs⟩
  conv => whnf
  refine br_i (fun h => ?_) (fun h => ?_)
  · have hlt : k < l.length := by simpa using h
    have hlt2 : k < m.length := by omega
    conv => whnf
    refine ⟨_, idx_map l XPend.ps k hlt 13, ?_⟩
    conv => whnf
    refine ⟨_, idx_map m XPend.ps k hlt2 13, ?_⟩
    conv => whnf
    refine call_i (eqPend l[k] m[k]) ?_
    conv => whnf
    try refine And.intro rfl ?_
    conv => whnf
    refine br_i (fun h => ?_) (fun h => ?_) <;> conv => whnf
    · refine leaf_i rfl rfl ?_
      have : l ≠ m := ne_of_get hlt hlt2 (by simpa using h)
      simp [boolv, this]
    · exact ⟨k + 1, ⟨⟨hlt, take_eq_succ hs hlt hlt2 (by simpa using h)⟩, by omega⟩, le_mk [] rfl ⟨⟨rfl, rfl⟩, ⟨rfl, rfl⟩, ⟨ctr (by omega), rfl⟩, trivial⟩ trivial rfl⟩
  · have hk : l.length ≤ k := by simpa using h
    conv => whnf
    refine leaf_i rfl rfl ?_
    have : l = m := take_eq_all hs hk hlen.symm
    simp [boolv, this]
theorem eqTable (x y : XTable) : PureC Try.prog 20 [x.v, y.v] [boolv (decide (x = y))] := by
  refine pureC_of (Γ := lookT tbl) (il := ilist) tg dr Try.func20 rfl (by kernel_rfl) rfl (Nat.le_of_ble_eq_true rfl) ?_
  (repeat' ((conv => whnf); first | refine br_i (fun _ => ?_) (fun _ => ?_) | (refine cur_leaf rfl rfl rfl ?_ ?_; · first | assumption | omega | exact hw ‹_›) | refine leaf_i rfl rfl ?_ | refine And.intro rfl ?_ | refine call_i (eqPendS x.List_ y.List_) ?_ | (refine Or.inl ?_; (conv => whnf); refine call_i (eqPendS x.List_ y.List_) ?_) | (refine And.intro ?_ ?_; · decide)))
  all_goals (cases x; cases y; (refine bool_leaf ?_; first | (simp_all []; done) | (simp_all []; omega)))
theorem eqCall (x y : XCall) : PureC Try.prog 54 [x.v, y.v] [boolv (decide (x = y))] := by
  refine pureC_of (Γ := lookT tbl) (il := ilist) tg dr Try.func54 rfl (by kernel_rfl) rfl (Nat.le_of_ble_eq_true rfl) ?_
  (repeat' ((conv => whnf); first | refine br_i (fun _ => ?_) (fun _ => ?_) | (refine cur_leaf rfl rfl rfl ?_ ?_; · first | assumption | omega | exact hw ‹_›) | refine leaf_i rfl rfl ?_ | refine And.intro rfl ?_ | refine call_i (eqReq x.Req y.Req) ?_ | (refine Or.inl ?_; (conv => whnf); refine call_i (eqReq x.Req y.Req) ?_) | (refine And.intro ?_ ?_; · decide)))
  all_goals (cases x; cases y; (refine bool_leaf ?_; first | (simp_all []; done) | (simp_all []; omega)))
theorem eqCallS (l m : List XCall) : PureC Try.prog 53 [XCall.sV l, XCall.sV m] [boolv (decide (l = m))] := by
  refine pureC_fit ⟨_, Try.func53, by kernel_rfl, rfl⟩ fun hf => ?_
  have hl : l.length ≤ 9223372036854775807 := fits_len (hf (XCall.sV l) (by simp))
  refine pureC_of (Γ := lookT tbl) (il := ilist) tg dr Try.func53 rfl (by kernel_rfl) rfl (Nat.le_of_ble_eq_true rfl) ?_
  conv => whnf
  refine br_i (fun h => ?_) (fun h => ?_) <;> conv => whnf
  · refine leaf_i rfl rfl ?_
    have : l ≠ m := fun e => by subst e; simp at h
    simp [boolv, this]
  have hlen : l.length = m.length := by simp at h; omega
  refine loop_i (fun k : Nat => ⟨envL [(0, .c (.pv (XCall.sP l))), (1, .c (.pv (XCall.sP m))), (5, .c (.pv (.int .i64 k)))], resL [], 0, 27⟩) (fun k => k ≤ l.length ∧ l.take k = m.take k) (fun k => l.length - k) 0 ⟨Nat.zero_le _, rfl⟩ (le_mk [] rfl ⟨⟨rfl, rfl⟩, ⟨rfl, rfl⟩, ⟨rfl, rfl⟩, trivial⟩ trivial rfl) ?_
  intro k ⟨hk, hs⟩
  conv => whnf
  refine br_i (fun h => ?_) (fun h => ?_)
  · have hlt : k < l.length := by simpa using h
    have hlt2 : k < m.length := by omega
    conv => whnf
    refine ⟨_, idx_map l XCall.ps k hlt 9, ?_⟩
    conv => whnf
    refine ⟨_, idx_map m XCall.ps k hlt2 9, ?_⟩
    conv => whnf
    refine call_i (eqCall l[k] m[k]) ?_
    conv => whnf
    try refine And.intro rfl ?_
    conv => whnf
    refine br_i (fun h => ?_) (fun h => ?_) <;> conv => whnf
    · refine leaf_i rfl rfl ?_
      have : l ≠ m := ne_of_get hlt hlt2 (by simpa using h)
      simp [boolv, this]
    · exact ⟨k + 1, ⟨⟨hlt, take_eq_succ hs hlt hlt2 (by simpa using h)⟩, by omega⟩, le_mk [] rfl ⟨⟨rfl, rfl⟩, ⟨rfl, rfl⟩, ⟨ctr (by omega), rfl⟩, trivial⟩ trivial rfl⟩
  · have hk : l.length ≤ k := by simpa using h
    conv => whnf
    refine leaf_i rfl rfl ?_
    have : l = m := take_eq_all hs hk hlen.symm
    simp [boolv, this]
theorem eqLine (x y : XLine) : PureC Try.prog 36 [x.v, y.v] [boolv (decide (x = y))] := by
  refine pureC_of (Γ := lookT tbl) (il := ilist) tg dr Try.func36 rfl (by kernel_rfl) rfl (Nat.le_of_ble_eq_true rfl) ?_
  (repeat' ((conv => whnf); first | refine br_i (fun _ => ?_) (fun _ => ?_) | (refine cur_leaf rfl rfl rfl ?_ ?_; · first | assumption | omega | exact hw ‹_›) | refine leaf_i rfl rfl ?_ | refine And.intro rfl ?_ | refine call_i (eqCallS x.Queue y.Queue) ?_ | (refine Or.inl ?_; (conv => whnf); refine call_i (eqCallS x.Queue y.Queue) ?_) | refine call_i (eqCall x.Call y.Call) ?_ | (refine Or.inl ?_; (conv => whnf); refine call_i (eqCall x.Call y.Call) ?_) | (refine And.intro ?_ ?_; · decide)))
  all_goals (cases x; cases y; (refine bool_leaf ?_; first | (simp_all []; done) | (simp_all []; omega)))
theorem eqLineS (l m : List XLine) : PureC Try.prog 21 [XLine.sV l, XLine.sV m] [boolv (decide (l = m))] := by
  refine pureC_fit ⟨_, Try.func21, by kernel_rfl, rfl⟩ fun hf => ?_
  have hl : l.length ≤ 9223372036854775807 := fits_len (hf (XLine.sV l) (by simp))
  refine pureC_of (Γ := lookT tbl) (il := ilist) tg dr Try.func21 rfl (by kernel_rfl) rfl (Nat.le_of_ble_eq_true rfl) ?_
  conv => whnf
  refine br_i (fun h => ?_) (fun h => ?_) <;> conv => whnf
  · refine leaf_i rfl rfl ?_
    have : l ≠ m := fun e => by subst e; simp at h
    simp [boolv, this]
  have hlen : l.length = m.length := by simp at h; omega
  refine loop_i (fun k : Nat => ⟨envL [(0, .c (.pv (XLine.sP l))), (1, .c (.pv (XLine.sP m))), (5, .c (.pv (.int .i64 k)))], resL [], 0, 27⟩) (fun k => k ≤ l.length ∧ l.take k = m.take k) (fun k => l.length - k) 0 ⟨Nat.zero_le _, rfl⟩ (le_mk [] rfl ⟨⟨rfl, rfl⟩, ⟨rfl, rfl⟩, ⟨rfl, rfl⟩, trivial⟩ trivial rfl) ?_
  intro k ⟨hk, hs⟩
  conv => whnf
  refine br_i (fun h => ?_) (fun h => ?_)
  · have hlt : k < l.length := by simpa using h
    have hlt2 : k < m.length := by omega
    conv => whnf
    refine ⟨_, idx_map l XLine.ps k hlt 17, ?_⟩
    conv => whnf
    refine ⟨_, idx_map m XLine.ps k hlt2 17, ?_⟩
    conv => whnf
    refine call_i (eqLine l[k] m[k]) ?_
    conv => whnf
    try refine And.intro rfl ?_
    conv => whnf
    refine br_i (fun h => ?_) (fun h => ?_) <;> conv => whnf
    · refine leaf_i rfl rfl ?_
      have : l ≠ m := ne_of_get hlt hlt2 (by simpa using h)
      simp [boolv, this]
    · exact ⟨k + 1, ⟨⟨hlt, take_eq_succ hs hlt hlt2 (by simpa using h)⟩, by omega⟩, le_mk [] rfl ⟨⟨rfl, rfl⟩, ⟨rfl, rfl⟩, ⟨ctr (by omega), rfl⟩, trivial⟩ trivial rfl⟩
  · have hk : l.length ≤ k := by simpa using h
    conv => whnf
    refine leaf_i rfl rfl ?_
    have : l = m := take_eq_all hs hk hlen.symm
    simp [boolv, this]
theorem eqFabric (x y : XFabric) : PureC Try.prog 8 [x.v, y.v] [boolv (decide (x = y))] := by
  refine pureC_of (Γ := lookT tbl) (il := ilist) tg dr Try.func8 rfl (by kernel_rfl) rfl (Nat.le_of_ble_eq_true rfl) ?_
  (repeat' ((conv => whnf); first | refine br_i (fun _ => ?_) (fun _ => ?_) | (refine cur_leaf rfl rfl rfl ?_ ?_; · first | assumption | omega | exact hw ‹_›) | refine leaf_i rfl rfl ?_ | refine And.intro rfl ?_ | refine call_i (eqConfig x.Set y.Set) ?_ | (refine Or.inl ?_; (conv => whnf); refine call_i (eqConfig x.Set y.Set) ?_) | refine call_i (eqTable x.Open y.Open) ?_ | (refine Or.inl ?_; (conv => whnf); refine call_i (eqTable x.Open y.Open) ?_) | refine call_i (eqLineS x.Lines y.Lines) ?_ | (refine Or.inl ?_; (conv => whnf); refine call_i (eqLineS x.Lines y.Lines) ?_) | (refine And.intro ?_ ?_; · decide)))
  all_goals (cases x; cases y; (refine bool_leaf ?_; first | (simp_all []; done) | (simp_all []; omega)))
end Go.Proofs.Ytfpcgomngnfdeaa
