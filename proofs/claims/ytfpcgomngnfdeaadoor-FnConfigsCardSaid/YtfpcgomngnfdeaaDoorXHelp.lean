/- The laws' helpers: measure, copy, compare. -/
import Derived.Test.YtfpcgomngnfdeaaDoorXMod
namespace Go.Proofs.YtfpcgomngnfdeaaDoor
open Go Go.Vi
set_option linter.unusedVariables false
set_option linter.unusedSimpArgs false
set_option maxRecDepth 100000
theorem eqRule (x y : XRule) : PureC Tryd.prog 41 [x.v, y.v] [boolv (decide (x = y))] := by
  refine pureC_of (Γ := lookT tbl) (il := ilist) tg dr Tryd.func41 rfl (by kernel_rfl) rfl (Nat.le_of_ble_eq_true rfl) ?_
  (repeat' ((conv => whnf); first | refine br_i (fun _ => ?_) (fun _ => ?_) | (refine cur_leaf rfl rfl rfl ?_ ?_; · first | assumption | omega | exact hw ‹_›) | refine leaf_i rfl rfl ?_ | refine And.intro rfl ?_ | (refine And.intro ?_ ?_; · decide)))
  all_goals (cases x; cases y; (refine bool_leaf ?_; first | (simp_all []; done) | (simp_all []; omega)))
theorem eqRuleS (l m : List XRule) : PureC Tryd.prog 23 [XRule.sV l, XRule.sV m] [boolv (decide (l = m))] := by
  refine pureC_fit ⟨_, Tryd.func23, by kernel_rfl, rfl⟩ fun hf => ?_
  have hl : l.length ≤ 9223372036854775807 := fits_len (hf (XRule.sV l) (by simp))
  refine pureC_of (Γ := lookT tbl) (il := ilist) tg dr Tryd.func23 rfl (by kernel_rfl) rfl (Nat.le_of_ble_eq_true rfl) ?_
  conv => whnf
  refine br_i (fun h => ?_) (fun h => ?_) <;> conv => whnf
  · refine leaf_i rfl rfl ?_
    have : l ≠ m := fun e => by subst e; simp at h
    simp [boolv, this]
  have hlen : l.length = m.length := by simp at h; omega
  refine loop_i (fun k : Nat => ⟨envL [(0, .c (.pv (XRule.sP l))), (1, .c (.pv (XRule.sP m))), (5, .c (.pv (.int .i64 k)))], resL [], 0, 27⟩) (fun k => k ≤ l.length ∧ l.take k = m.take k) (fun k => l.length - k) 0 ⟨Nat.zero_le _, rfl⟩ (le_mk [] rfl ⟨⟨rfl, rfl⟩, ⟨rfl, rfl⟩, ⟨rfl, rfl⟩, trivial⟩ trivial rfl) ?_
  intro k ⟨hk, hs⟩
  conv => whnf
  refine br_i (fun h => ?_) (fun h => ?_)
  · have hlt : k < l.length := by simpa using h
    have hlt2 : k < m.length := by omega
    conv => whnf
    refine ⟨_, idx_map l XRule.ps k hlt 7, ?_⟩
    conv => whnf
    refine ⟨_, idx_map m XRule.ps k hlt2 7, ?_⟩
    conv => whnf
    refine call_i (eqRule l[k] m[k]) ?_
    conv => whnf
    try refine And.intro rfl ?_
    conv => whnf
    refine br_i (fun h => ?_) (fun h => ?_) <;> conv => whnf
    · refine leaf_i rfl rfl ?_
      have : l ≠ m := ne_of_get hlt hlt2 (by simpa using h)
      simp [boolv, this]
    · exact ⟨k + 1, ⟨⟨hlt, take_eq_succ hs hlt hlt2 (by simpa using h)⟩, by omega⟩, le_mk [] rfl ⟨⟨rfl, rfl⟩, ⟨rfl, rfl⟩, ⟨ctr (by omega), rfl⟩, trivial⟩ trivial rfl⟩
  · have hk : l.length ≤ k := by simpa using h
    conv => whnf
    refine leaf_i rfl rfl ?_
    have : l = m := take_eq_all hs hk hlen.symm
    simp [boolv, this]
theorem eqConfig (x y : XConfig) : PureC Tryd.prog 8 [x.v, y.v] [boolv (decide (x = y))] := by
  refine pureC_of (Γ := lookT tbl) (il := ilist) tg dr Tryd.func8 rfl (by kernel_rfl) rfl (Nat.le_of_ble_eq_true rfl) ?_
  (repeat' ((conv => whnf); first | refine br_i (fun _ => ?_) (fun _ => ?_) | (refine cur_leaf rfl rfl rfl ?_ ?_; · first | assumption | omega | exact hw ‹_›) | refine leaf_i rfl rfl ?_ | refine And.intro rfl ?_ | refine call_i (eqRuleS x.Rules y.Rules) ?_ | (refine Or.inl ?_; (conv => whnf); refine call_i (eqRuleS x.Rules y.Rules) ?_) | (refine And.intro ?_ ?_; · decide)))
  all_goals (cases x; cases y; (refine bool_leaf ?_; first | (simp_all []; done) | (simp_all []; omega)))
theorem szRuleS (l : List XRule) (n : Int) (h0 : 0 ≤ n) (h1 : n ≤ 1048576) : PureC Tryd.prog 26 [XRule.sV l, i64v n] [i64v (sub n (l.length))] := by
  refine pureC_fit ⟨_, Tryd.func26, by kernel_rfl, rfl⟩ fun hf => ?_
  have hl : l.length ≤ 9223372036854775807 := fits_len (hf (XRule.sV l) (by simp))
  refine pureC_of (Γ := lookT tbl) (il := ilist) tg dr Tryd.func26 rfl (by kernel_rfl) rfl (Nat.le_of_ble_eq_true rfl) ?_
  have hw : IntKind.i64.wrap (n - (l.map XRule.ps).length) = n - l.length := by rw [List.length_map]; exact wrap_ok (by omega) (by omega)
  (repeat' ((conv => whnf); first | refine br_i (fun _ => ?_) (fun _ => ?_) | (refine cur_leaf rfl rfl rfl ?_ ?_; · first | assumption | omega | exact hw ‹_›) | refine leaf_i rfl rfl ?_ | refine And.intro rfl ?_ | (refine And.intro ?_ ?_; · decide)))
  all_goals simp only [hw] at *
  · rename_i h; rw [sub_lt (by have := dlt h; omega)]; rfl
  · rename_i h; rw [sub_ge (by have := dge h; omega)]; rfl
theorem szConfig (x : XConfig) (n : Int) (h0 : 0 ≤ n) (h1 : n ≤ 1048576) : PureC Tryd.prog 11 [x.v, i64v n] [i64v (sub n x.tot)] := by
  refine pureC_of (Γ := lookT tbl) (il := ilist) tg dr Tryd.func11 rfl (by kernel_rfl) rfl (Nat.le_of_ble_eq_true rfl) ?_
  conv => whnf
  refine call_i (szRuleS x.Rules _ (by omega) (by omega)) ?_
  conv => whnf
  refine br_i (fun h => ?_) (fun h => ?_) <;> conv => whnf
  · refine leaf_i rfl rfl ?_
    rw [sub_lt (show n < x.tot by have := sub_neg (dlt h) (by omega); unfold XConfig.tot; omega)]; rfl
  have h := sub_nn (dge h)
  refine leaf_i rfl rfl ?_
  rw [sub_ge (show (x.tot : Int) ≤ n by unfold XConfig.tot; omega)]
  show [i64v _] = [i64v _]
  congr 2
  unfold XConfig.tot
  omega
theorem toRule (x : XRule) : PureC Tryd.prog 42 [x.v] [x.v] := by
  refine pureC_of (Γ := lookT tbl) (il := ilist) tg dr Tryd.func42 rfl (by kernel_rfl) rfl (Nat.le_of_ble_eq_true rfl) ?_
  conv => whnf
  exact leaf_i rfl rfl rfl
theorem toRuleS (l : List XRule) (hl : l.length ≤ 1048576) : PureC Tryd.prog 28 [XRule.sV l] [XRule.sV l] := by
  refine pureC_of (Γ := lookT tbl) (il := ilist) tg dr Tryd.func28 rfl (by kernel_rfl) rfl (Nat.le_of_ble_eq_true rfl) ?_
  conv => whnf
  refine ⟨l.length, (fillK XRule.zero l 0).map XRule.ps, ⟨⟨⟨by simp, by simp⟩, by show 56 * _ ≤ _; omega, by decide⟩, by rw [fillK_zero, List.map_replicate]; rfl⟩, ?_⟩
  conv => whnf
  refine loop_i (fun k : Nat => ⟨envL [(0, .c (.pv (XRule.sP l))), (3, .c (.row 0)), (4, .c (.pv (.int .i64 k)))], resL [(0, .row true 7 ((fillK XRule.zero l k).map XRule.ps))], 1, 23⟩) (fun k => k ≤ l.length) (fun k => l.length - k) 0 (Nat.zero_le _) (le_mk [(0, 3072)] rfl ⟨⟨rfl, rfl⟩, ⟨rfl, rfl⟩, ⟨rfl, rfl⟩, trivial⟩ ⟨⟨rfl, rfl⟩, trivial⟩ rfl) ?_
  intro k hk
  conv => whnf
  refine br_i (fun h => ?_) (fun h => ?_)
  · have hlt : k < l.length := by simpa using h
    conv => whnf
    refine ⟨_, idx_map l XRule.ps k hlt 7, ?_⟩
    conv => whnf
    refine call_i (toRule l[k]) ?_
    conv => whnf
    refine ⟨k, ⟨⟨rfl, by simp [fillK_len _ l k hk]; exact hlt⟩, rfl⟩, ?_⟩
    conv => whnf
    refine ⟨(fillK XRule.zero l (k + 1)).map XRule.ps, ⟨⟨rfl, by simp [fillK_len _ l k hk]; exact hlt, Nat.le_of_ble_eq_true rfl⟩, fill_el XRule.zero l k XRule.ps 7 (fun _ => rfl) hlt⟩, ?_⟩
    conv => whnf
    exact ⟨k + 1, ⟨hlt, by omega⟩, le_mk [] rfl ⟨⟨rfl, rfl⟩, ⟨rfl, rfl⟩, ⟨ctr (by omega), rfl⟩, trivial⟩ ⟨⟨rfl, rfl⟩, trivial⟩ rfl⟩
  · have hk : k = l.length := by simp at h; omega
    subst hk
    conv => whnf
    refine leaf_i rfl rfl ?_
    rw [fillK_all]
    rfl
theorem toConfig (x : XConfig) (h : x.tot ≤ 1048576) : PureC Tryd.prog 13 [x.v] [x.v] := by
  refine pureC_of (Γ := lookT tbl) (il := ilist) tg dr Tryd.func13 rfl (by kernel_rfl) rfl (Nat.le_of_ble_eq_true rfl) ?_
  unfold XConfig.tot at h
  conv => whnf
  refine call_i (toRuleS x.Rules (by omega)) ?_
  conv => whnf
  exact leaf_i rfl rfl rfl
end Go.Proofs.YtfpcgomngnfdeaaDoor
