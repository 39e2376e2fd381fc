/- The laws' helpers: measure, copy, compare. -/
import Derived.Test.YtdgmaaiijkoedaaXMod
namespace Go.Proofs.Ytdgmaaiijkoedaa
open Go Go.Vi
set_option linter.unusedVariables false
set_option linter.unusedSimpArgs false
set_option maxRecDepth 100000
theorem szRuleS (l : List XRule) (n : Int) (h0 : 0 ≤ n) (h1 : n ≤ 1048576) : PureC Try.prog 19 [XRule.sV l, i64v n] [i64v (sub n (l.length))] := by
  refine pureC_fit ⟨_, Try.func19, by kernel_rfl, rfl⟩ fun hf => ?_
  have hl : l.length ≤ 9223372036854775807 := fits_len (hf (XRule.sV l) (by simp))
  refine pureC_of (Γ := lookT tbl) (il := ilist) tg dr Try.func19 rfl (by kernel_rfl) rfl (Nat.le_of_ble_eq_true rfl) ?_
  have hw : IntKind.i64.wrap (n - (l.map XRule.ps).length) = n - l.length := by rw [List.length_map]; exact wrap_ok (by omega) (by omega)
  (repeat' ((conv => whnf); first | refine br_i (fun _ => ?_) (fun _ => ?_) | (refine cur_leaf rfl rfl rfl ?_ ?_; · first | assumption | omega | exact hw ‹_›) | refine leaf_i rfl rfl ?_ | refine And.intro rfl ?_ | (refine And.intro ?_ ?_; · decide)))
  all_goals simp only [hw] at *
  · rename_i h; rw [sub_lt (by have := dlt h; omega)]; rfl
  · rename_i h; rw [sub_ge (by have := dge h; omega)]; rfl
theorem szIntS (l : List Int) (n : Int) (h0 : 0 ≤ n) (h1 : n ≤ 1048576) : PureC Try.prog 55 [intsV l, i64v n] [i64v (sub n (l.length))] := by
  refine pureC_fit ⟨_, Try.func55, by kernel_rfl, rfl⟩ fun hf => ?_
  have hl : l.length ≤ 9223372036854775807 := fits_len (hf (intsV l) (by simp))
  refine pureC_of (Γ := lookT tbl) (il := ilist) tg dr Try.func55 rfl (by kernel_rfl) rfl (Nat.le_of_ble_eq_true rfl) ?_
  have hw : IntKind.i64.wrap (n - (l.map intEl).length) = n - l.length := by rw [List.length_map]; exact wrap_ok (by omega) (by omega)
  (repeat' ((conv => whnf); first | refine br_i (fun _ => ?_) (fun _ => ?_) | (refine cur_leaf rfl rfl rfl ?_ ?_; · first | assumption | omega | exact hw ‹_›) | refine leaf_i rfl rfl ?_ | refine And.intro rfl ?_ | (refine And.intro ?_ ?_; · decide)))
  all_goals simp only [hw] at *
  · rename_i h; rw [sub_lt (by have := dlt h; omega)]; rfl
  · rename_i h; rw [sub_ge (by have := dge h; omega)]; rfl
theorem szBoolS (l : List Bool) (n : Int) (h0 : 0 ≤ n) (h1 : n ≤ 1048576) : PureC Try.prog 56 [boolsV l, i64v n] [i64v (sub n (l.length))] := by
  refine pureC_fit ⟨_, Try.func56, by kernel_rfl, rfl⟩ fun hf => ?_
  have hl : l.length ≤ 9223372036854775807 := fits_len (hf (boolsV l) (by simp))
  refine pureC_of (Γ := lookT tbl) (il := ilist) tg dr Try.func56 rfl (by kernel_rfl) rfl (Nat.le_of_ble_eq_true rfl) ?_
  have hw : IntKind.i64.wrap (n - (l.map boolEl).length) = n - l.length := by rw [List.length_map]; exact wrap_ok (by omega) (by omega)
  (repeat' ((conv => whnf); first | refine br_i (fun _ => ?_) (fun _ => ?_) | (refine cur_leaf rfl rfl rfl ?_ ?_; · first | assumption | omega | exact hw ‹_›) | refine leaf_i rfl rfl ?_ | refine And.intro rfl ?_ | (refine And.intro ?_ ?_; · decide)))
  all_goals simp only [hw] at *
  · rename_i h; rw [sub_lt (by have := dlt h; omega)]; rfl
  · rename_i h; rw [sub_ge (by have := dge h; omega)]; rfl
theorem szReq (x : XReq) (n : Int) (h0 : 0 ≤ n) (h1 : n ≤ 1048576) : PureC Try.prog 20 [x.v, i64v n] [i64v (sub n x.tot)] := by
  refine pureC_of (Γ := lookT tbl) (il := ilist) tg dr Try.func20 rfl (by kernel_rfl) rfl (Nat.le_of_ble_eq_true rfl) ?_
  conv => whnf
  refine call_i (szIntS x.Words _ (by omega) (by omega)) ?_
  conv => whnf
  refine br_i (fun h => ?_) (fun h => ?_) <;> conv => whnf
  · refine leaf_i rfl rfl ?_
    rw [sub_lt (show n < x.tot by have := sub_neg (dlt h) (by omega); unfold XReq.tot; omega)]; rfl
  have h := sub_nn (dge h)
  refine call_i (szBoolS x.Bits _ (by omega) (by omega)) ?_
  conv => whnf
  refine br_i (fun h => ?_) (fun h => ?_) <;> conv => whnf
  · refine leaf_i rfl rfl ?_
    rw [sub_lt (show n < x.tot by have := sub_neg (dlt h) (by omega); unfold XReq.tot; omega)]; rfl
  have h := sub_nn (dge h)
  refine leaf_i rfl rfl ?_
  rw [sub_ge (show (x.tot : Int) ≤ n by unfold XReq.tot; omega)]
  show [i64v _] = [i64v _]
  congr 2
  unfold XReq.tot
  omega
theorem toRule (x : XRule) : PureC Try.prog 57 [x.v] [x.v] := by
  refine pureC_of (Γ := lookT tbl) (il := ilist) tg dr Try.func57 rfl (by kernel_rfl) rfl (Nat.le_of_ble_eq_true rfl) ?_
  conv => whnf
  exact leaf_i rfl rfl rfl
theorem toRuleS (l : List XRule) (hl : l.length ≤ 1048576) : PureC Try.prog 21 [XRule.sV l] [XRule.sV l] := by
  refine pureC_of (Γ := lookT tbl) (il := ilist) tg dr Try.func21 rfl (by kernel_rfl) rfl (Nat.le_of_ble_eq_true rfl) ?_
  conv => whnf
  refine ⟨l.length, (fillK XRule.zero l 0).map XRule.ps, ⟨⟨⟨by simp, by simp⟩, by show 56 * _ ≤ _; omega, by decide⟩, by rw [fillK_zero, List.map_replicate]; rfl⟩, ?_⟩
  conv => whnf
  refine loop_i (fun k : Nat => ⟨envL [(0, .c (.pv (XRule.sP l))), (3, .c (.row 0)), (4, .c (.pv (.int .i64 k)))], resL [(0, .row true 7 ((fillK XRule.zero l k).map XRule.ps))], 1, 23⟩) (fun k => k ≤ l.length) (fun k => l.length - k) 0 (Nat.zero_le _) (le_mk [(0, 3072)] rfl ⟨⟨rfl, rfl⟩, ⟨rfl, rfl⟩, ⟨rfl, rfl⟩, trivial⟩ ⟨⟨rfl, rfl⟩, trivial⟩ rfl) ?_
  intro k hk
  conv => whnf
  refine br_i (fun h => ?_) (fun h => ?_)
  · have hlt : k < l.length := by simpa using h
    conv => whnf
    refine ⟨_, idx_map l XRule.ps k hlt 7, ?_⟩
    conv => whnf
    refine call_i (toRule l[k]) ?_
    conv => whnf
    refine ⟨k, ⟨⟨rfl, by simp [fillK_len _ l k hk]; exact hlt⟩, rfl⟩, ?_⟩
    conv => whnf
    refine ⟨(fillK XRule.zero l (k + 1)).map XRule.ps, ⟨⟨rfl, by simp [fillK_len _ l k hk]; exact hlt, Nat.le_of_ble_eq_true rfl⟩, fill_el XRule.zero l k XRule.ps 7 (fun _ => rfl) hlt⟩, ?_⟩
    conv => whnf
    exact ⟨k + 1, ⟨hlt, by omega⟩, le_mk [] rfl ⟨⟨rfl, rfl⟩, ⟨rfl, rfl⟩, ⟨ctr (by omega), rfl⟩, trivial⟩ ⟨⟨rfl, rfl⟩, trivial⟩ rfl⟩
  · have hk : k = l.length := by simp at h; omega
    subst hk
    conv => whnf
    refine leaf_i rfl rfl ?_
    rw [fillK_all]
    rfl
theorem toIntS (l : List Int) (hl : l.length ≤ 1048576) : PureC Try.prog 58 [intsV l] [intsV l] := by
  refine pureC_of (Γ := lookT tbl) (il := ilist) tg dr Try.func58 rfl (by kernel_rfl) rfl (Nat.le_of_ble_eq_true rfl) ?_
  conv => whnf
  refine ⟨l.length, (fillK 0 l 0).map intEl, ⟨⟨⟨by simp, by simp⟩, by show 8 * _ ≤ _; omega, by decide⟩, by rw [fillK_zero, List.map_replicate]; rfl⟩, ?_⟩
  conv => whnf
  refine loop_i (fun k : Nat => ⟨envL [(0, .c (.pv (intsP l))), (3, .c (.row 0)), (4, .c (.pv (.int .i64 k)))], resL [(0, .row true 1 ((fillK 0 l k).map intEl))], 1, 22⟩) (fun k => k ≤ l.length) (fun k => l.length - k) 0 (Nat.zero_le _) (le_mk [(0, 3072)] rfl ⟨⟨rfl, rfl⟩, ⟨rfl, rfl⟩, ⟨rfl, rfl⟩, trivial⟩ ⟨⟨rfl, rfl⟩, trivial⟩ rfl) ?_
  intro k hk
  conv => whnf
  refine br_i (fun h => ?_) (fun h => ?_)
  · have hlt : k < l.length := by simpa using h
    conv => whnf
    refine ⟨_, idx_map l intEl k hlt 1, ?_⟩
    conv => whnf
    refine ⟨k, ⟨⟨rfl, by simp [fillK_len _ l k hk]; exact hlt⟩, rfl⟩, ?_⟩
    conv => whnf
    refine ⟨(fillK 0 l (k + 1)).map intEl, ⟨rfl, by simp [fillK_len _ l k hk]; exact hlt, by decide, by rw [← fillK_set 0 l k hlt]; exact set_map (PV.int .i64) _ k _⟩, ?_⟩
    conv => whnf
    exact ⟨k + 1, ⟨hlt, by omega⟩, le_mk [] rfl ⟨⟨rfl, rfl⟩, ⟨rfl, rfl⟩, ⟨ctr (by omega), rfl⟩, trivial⟩ ⟨⟨rfl, rfl⟩, trivial⟩ rfl⟩
  · have hk : k = l.length := by simp at h; omega
    subst hk
    conv => whnf
    refine leaf_i rfl rfl ?_
    rw [fillK_all]
    rfl
theorem toBoolS (l : List Bool) (hl : l.length ≤ 1048576) : PureC Try.prog 59 [boolsV l] [boolsV l] := by
  refine pureC_of (Γ := lookT tbl) (il := ilist) tg dr Try.func59 rfl (by kernel_rfl) rfl (Nat.le_of_ble_eq_true rfl) ?_
  conv => whnf
  refine ⟨l.length, (fillK false l 0).map boolEl, ⟨⟨⟨by simp, by simp⟩, by show 1 * _ ≤ _; omega, by decide⟩, by rw [fillK_zero, List.map_replicate]; rfl⟩, ?_⟩
  conv => whnf
  refine loop_i (fun k : Nat => ⟨envL [(0, .c (.pv (boolsP l))), (3, .c (.row 0)), (4, .c (.pv (.int .i64 k)))], resL [(0, .row true 1 ((fillK false l k).map boolEl))], 1, 22⟩) (fun k => k ≤ l.length) (fun k => l.length - k) 0 (Nat.zero_le _) (le_mk [(0, 3072)] rfl ⟨⟨rfl, rfl⟩, ⟨rfl, rfl⟩, ⟨rfl, rfl⟩, trivial⟩ ⟨⟨rfl, rfl⟩, trivial⟩ rfl) ?_
  intro k hk
  conv => whnf
  refine br_i (fun h => ?_) (fun h => ?_)
  · have hlt : k < l.length := by simpa using h
    conv => whnf
    refine ⟨_, idx_map l boolEl k hlt 1, ?_⟩
    conv => whnf
    refine ⟨k, ⟨⟨rfl, by simp [fillK_len _ l k hk]; exact hlt⟩, rfl⟩, ?_⟩
    conv => whnf
    refine ⟨(fillK false l (k + 1)).map boolEl, ⟨rfl, by simp [fillK_len _ l k hk]; exact hlt, by decide, by rw [← fillK_set false l k hlt]; exact set_map (PV.bool) _ k _⟩, ?_⟩
    conv => whnf
    exact ⟨k + 1, ⟨hlt, by omega⟩, le_mk [] rfl ⟨⟨rfl, rfl⟩, ⟨rfl, rfl⟩, ⟨ctr (by omega), rfl⟩, trivial⟩ ⟨⟨rfl, rfl⟩, trivial⟩ rfl⟩
  · have hk : k = l.length := by simp at h; omega
    subst hk
    conv => whnf
    refine leaf_i rfl rfl ?_
    rw [fillK_all]
    rfl
theorem toReq (x : XReq) (h : x.tot ≤ 1048576) : PureC Try.prog 22 [x.v] [x.v] := by
  refine pureC_of (Γ := lookT tbl) (il := ilist) tg dr Try.func22 rfl (by kernel_rfl) rfl (Nat.le_of_ble_eq_true rfl) ?_
  unfold XReq.tot at h
  conv => whnf
  refine call_i (toIntS x.Words (by omega)) ?_
  conv => whnf
  refine call_i (toBoolS x.Bits (by omega)) ?_
  conv => whnf
  exact leaf_i rfl rfl rfl
theorem eqIntS (l m : List Int) : PureC Try.prog 62 [intsV l, intsV m] [boolv (decide (l = m))] := by
  refine pureC_fit ⟨_, Try.func62, by kernel_rfl, rfl⟩ fun hf => ?_
  have hl : l.length ≤ 9223372036854775807 := fits_len (hf (intsV l) (by simp))
  refine pureC_of (Γ := lookT tbl) (il := ilist) tg dr Try.func62 rfl (by kernel_rfl) rfl (Nat.le_of_ble_eq_true rfl) ?_
  conv => whnf
  refine br_i (fun h => ?_) (fun h => ?_) <;> conv => whnf
  · refine leaf_i rfl rfl ?_
    have : l ≠ m := fun e => by subst e; simp at h
    simp [boolv, this]
  have hlen : l.length = m.length := by simp at h; omega
  refine loop_i (fun k : Nat => ⟨envL [(0, .c (.pv (intsP l))), (1, .c (.pv (intsP m))), (5, .c (.pv (.int .i64 k)))], resL [], 0, 26⟩) (fun k => k ≤ l.length ∧ l.take k = m.take k) (fun k => l.length - k) 0 ⟨Nat.zero_le _, rfl⟩ (le_mk [] rfl ⟨⟨rfl, rfl⟩, ⟨rfl, rfl⟩, ⟨rfl, rfl⟩, trivial⟩ trivial rfl) ?_
  intro k ⟨hk, hs⟩
  conv => whnf
  refine br_i (fun h => ?_) (fun h => ?_)
  · have hlt : k < l.length := by simpa using h
    have hlt2 : k < m.length := by omega
    conv => whnf
    refine ⟨_, idx_map l intEl k hlt 1, ?_⟩
    conv => whnf
    refine ⟨_, idx_map m intEl k hlt2 1, ?_⟩
    conv => whnf
    try refine And.intro rfl ?_
    conv => whnf
    refine br_i (fun h => ?_) (fun h => ?_) <;> conv => whnf
    · refine leaf_i rfl rfl ?_
      have : l ≠ m := ne_of_get hlt hlt2 (by simpa using h)
      simp [boolv, this]
    · exact ⟨k + 1, ⟨⟨hlt, take_eq_succ hs hlt hlt2 (by simpa using h)⟩, by omega⟩, le_mk [] rfl ⟨⟨rfl, rfl⟩, ⟨rfl, rfl⟩, ⟨ctr (by omega), rfl⟩, trivial⟩ trivial rfl⟩
  · have hk : l.length ≤ k := by simpa using h
    conv => whnf
    refine leaf_i rfl rfl ?_
    have : l = m := take_eq_all hs hk hlen.symm
    simp [boolv, this]
theorem eqBoolS (l m : List Bool) : PureC Try.prog 63 [boolsV l, boolsV m] [boolv (decide (l = m))] := by
  refine pureC_fit ⟨_, Try.func63, by kernel_rfl, rfl⟩ fun hf => ?_
  have hl : l.length ≤ 9223372036854775807 := fits_len (hf (boolsV l) (by simp))
  refine pureC_of (Γ := lookT tbl) (il := ilist) tg dr Try.func63 rfl (by kernel_rfl) rfl (Nat.le_of_ble_eq_true rfl) ?_
  conv => whnf
  refine br_i (fun h => ?_) (fun h => ?_) <;> conv => whnf
  · refine leaf_i rfl rfl ?_
    have : l ≠ m := fun e => by subst e; simp at h
    simp [boolv, this]
  have hlen : l.length = m.length := by simp at h; omega
  refine loop_i (fun k : Nat => ⟨envL [(0, .c (.pv (boolsP l))), (1, .c (.pv (boolsP m))), (5, .c (.pv (.int .i64 k)))], resL [], 0, 26⟩) (fun k => k ≤ l.length ∧ l.take k = m.take k) (fun k => l.length - k) 0 ⟨Nat.zero_le _, rfl⟩ (le_mk [] rfl ⟨⟨rfl, rfl⟩, ⟨rfl, rfl⟩, ⟨rfl, rfl⟩, trivial⟩ trivial rfl) ?_
  intro k ⟨hk, hs⟩
  conv => whnf
  refine br_i (fun h => ?_) (fun h => ?_)
  · have hlt : k < l.length := by simpa using h
    have hlt2 : k < m.length := by omega
    conv => whnf
    refine ⟨_, idx_map l boolEl k hlt 1, ?_⟩
    conv => whnf
    refine ⟨_, idx_map m boolEl k hlt2 1, ?_⟩
    conv => whnf
    try refine And.intro rfl ?_
    conv => whnf
    refine br_i (fun h => ?_) (fun h => ?_) <;> conv => whnf
    · refine leaf_i rfl rfl ?_
      have : l ≠ m := ne_of_get hlt hlt2 (by simpa using h)
      simp [boolv, this]
    · exact ⟨k + 1, ⟨⟨hlt, take_eq_succ hs hlt hlt2 (by simpa using h)⟩, by omega⟩, le_mk [] rfl ⟨⟨rfl, rfl⟩, ⟨rfl, rfl⟩, ⟨ctr (by omega), rfl⟩, trivial⟩ trivial rfl⟩
  · have hk : l.length ≤ k := by simpa using h
    conv => whnf
    refine leaf_i rfl rfl ?_
    have : l = m := take_eq_all hs hk hlen.symm
    simp [boolv, this]
theorem eqReq (x y : XReq) : PureC Try.prog 25 [x.v, y.v] [boolv (decide (x = y))] := by
  refine pureC_of (Γ := lookT tbl) (il := ilist) tg dr Try.func25 rfl (by kernel_rfl) rfl (Nat.le_of_ble_eq_true rfl) ?_
  (repeat' ((conv => whnf); first | refine br_i (fun _ => ?_) (fun _ => ?_) | (refine cur_leaf rfl rfl rfl ?_ ?_; · first | assumption | omega | exact hw ‹_›) | refine leaf_i rfl rfl ?_ | refine And.intro rfl ?_ | refine call_i (eqIntS x.Words y.Words) ?_ | refine Or.inl (call_i (eqIntS x.Words y.Words) ?_) | refine call_i (eqBoolS x.Bits y.Bits) ?_ | refine Or.inl (call_i (eqBoolS x.Bits y.Bits) ?_) | (refine And.intro ?_ ?_; · decide)))
  all_goals (cases x; cases y; (refine bool_leaf ?_; first | (simp_all []; done) | (simp_all []; omega)))
theorem eqPart (x y : XPart) : PureC Try.prog 60 [x.v, y.v] [boolv (decide (x = y))] := by
  refine pureC_of (Γ := lookT tbl) (il := ilist) tg dr Try.func60 rfl (by kernel_rfl) rfl (Nat.le_of_ble_eq_true rfl) ?_
  (repeat' ((conv => whnf); first | refine br_i (fun _ => ?_) (fun _ => ?_) | (refine cur_leaf rfl rfl rfl ?_ ?_; · first | assumption | omega | exact hw ‹_›) | refine leaf_i rfl rfl ?_ | refine And.intro rfl ?_ | refine call_i (eqReq x.Req y.Req) ?_ | refine Or.inl (call_i (eqReq x.Req y.Req) ?_) | (refine And.intro ?_ ?_; · decide)))
  all_goals (cases x; cases y; (refine bool_leaf ?_; first | (simp_all []; done) | (simp_all []; omega)))
theorem eqPartS (l m : List XPart) : PureC Try.prog 23 [XPart.sV l, XPart.sV m] [boolv (decide (l = m))] := by
  refine pureC_fit ⟨_, Try.func23, by kernel_rfl, rfl⟩ fun hf => ?_
  have hl : l.length ≤ 9223372036854775807 := fits_len (hf (XPart.sV l) (by simp))
  refine pureC_of (Γ := lookT tbl) (il := ilist) tg dr Try.func23 rfl (by kernel_rfl) rfl (Nat.le_of_ble_eq_true rfl) ?_
  conv => whnf
  refine br_i (fun h => ?_) (fun h => ?_) <;> conv => whnf
  · refine leaf_i rfl rfl ?_
    have : l ≠ m := fun e => by subst e; simp at h
    simp [boolv, this]
  have hlen : l.length = m.length := by simp at h; omega
  refine loop_i (fun k : Nat => ⟨envL [(0, .c (.pv (XPart.sP l))), (1, .c (.pv (XPart.sP m))), (5, .c (.pv (.int .i64 k)))], resL [], 0, 27⟩) (fun k => k ≤ l.length ∧ l.take k = m.take k) (fun k => l.length - k) 0 ⟨Nat.zero_le _, rfl⟩ (le_mk [] rfl ⟨⟨rfl, rfl⟩, ⟨rfl, rfl⟩, ⟨rfl, rfl⟩, trivial⟩ trivial rfl) ?_
  intro k ⟨hk, hs⟩
  conv => whnf
  refine br_i (fun h => ?_) (fun h => ?_)
  · have hlt : k < l.length := by simpa using h
    have hlt2 : k < m.length := by omega
    conv => whnf
    refine ⟨_, idx_map l XPart.ps k hlt 8, ?_⟩
    conv => whnf
    refine ⟨_, idx_map m XPart.ps k hlt2 8, ?_⟩
    conv => whnf
    refine call_i (eqPart l[k] m[k]) ?_
    conv => whnf
    try refine And.intro rfl ?_
    conv => whnf
    refine br_i (fun h => ?_) (fun h => ?_) <;> conv => whnf
    · refine leaf_i rfl rfl ?_
      have : l ≠ m := ne_of_get hlt hlt2 (by simpa using h)
      simp [boolv, this]
    · exact ⟨k + 1, ⟨⟨hlt, take_eq_succ hs hlt hlt2 (by simpa using h)⟩, by omega⟩, le_mk [] rfl ⟨⟨rfl, rfl⟩, ⟨rfl, rfl⟩, ⟨ctr (by omega), rfl⟩, trivial⟩ trivial rfl⟩
  · have hk : l.length ≤ k := by simpa using h
    conv => whnf
    refine leaf_i rfl rfl ?_
    have : l = m := take_eq_all hs hk hlen.symm
    simp [boolv, this]
theorem eqRule (x y : XRule) : PureC Try.prog 61 [x.v, y.v] [boolv (decide (x = y))] := by
  refine pureC_of (Γ := lookT tbl) (il := ilist) tg dr Try.func61 rfl (by kernel_rfl) rfl (Nat.le_of_ble_eq_true rfl) ?_
  (repeat' ((conv => whnf); first | refine br_i (fun _ => ?_) (fun _ => ?_) | (refine cur_leaf rfl rfl rfl ?_ ?_; · first | assumption | omega | exact hw ‹_›) | refine leaf_i rfl rfl ?_ | refine And.intro rfl ?_ | (refine And.intro ?_ ?_; · decide)))
  all_goals (cases x; cases y; (refine bool_leaf ?_; first | (simp_all []; done) | (simp_all []; omega)))
theorem eqRuleS (l m : List XRule) : PureC Try.prog 24 [XRule.sV l, XRule.sV m] [boolv (decide (l = m))] := by
  refine pureC_fit ⟨_, Try.func24, by kernel_rfl, rfl⟩ fun hf => ?_
  have hl : l.length ≤ 9223372036854775807 := fits_len (hf (XRule.sV l) (by simp))
  refine pureC_of (Γ := lookT tbl) (il := ilist) tg dr Try.func24 rfl (by kernel_rfl) rfl (Nat.le_of_ble_eq_true rfl) ?_
  conv => whnf
  refine br_i (fun h => ?_) (fun h => ?_) <;> conv => whnf
  · refine leaf_i rfl rfl ?_
    have : l ≠ m := fun e => by subst e; simp at h
    simp [boolv, this]
  have hlen : l.length = m.length := by simp at h; omega
  refine loop_i (fun k : Nat => ⟨envL [(0, .c (.pv (XRule.sP l))), (1, .c (.pv (XRule.sP m))), (5, .c (.pv (.int .i64 k)))], resL [], 0, 27⟩) (fun k => k ≤ l.length ∧ l.take k = m.take k) (fun k => l.length - k) 0 ⟨Nat.zero_le _, rfl⟩ (le_mk [] rfl ⟨⟨rfl, rfl⟩, ⟨rfl, rfl⟩, ⟨rfl, rfl⟩, trivial⟩ trivial rfl) ?_
  intro k ⟨hk, hs⟩
  conv => whnf
  refine br_i (fun h => ?_) (fun h => ?_)
  · have hlt : k < l.length := by simpa using h
    have hlt2 : k < m.length := by omega
    conv => whnf
    refine ⟨_, idx_map l XRule.ps k hlt 7, ?_⟩
    conv => whnf
    refine ⟨_, idx_map m XRule.ps k hlt2 7, ?_⟩
    conv => whnf
    refine call_i (eqRule l[k] m[k]) ?_
    conv => whnf
    try refine And.intro rfl ?_
    conv => whnf
    refine br_i (fun h => ?_) (fun h => ?_) <;> conv => whnf
    · refine leaf_i rfl rfl ?_
      have : l ≠ m := ne_of_get hlt hlt2 (by simpa using h)
      simp [boolv, this]
    · exact ⟨k + 1, ⟨⟨hlt, take_eq_succ hs hlt hlt2 (by simpa using h)⟩, by omega⟩, le_mk [] rfl ⟨⟨rfl, rfl⟩, ⟨rfl, rfl⟩, ⟨ctr (by omega), rfl⟩, trivial⟩ trivial rfl⟩
  · have hk : l.length ≤ k := by simpa using h
    conv => whnf
    refine leaf_i rfl rfl ?_
    have : l = m := take_eq_all hs hk hlen.symm
    simp [boolv, this]
theorem eqSameI (l m : List Int) : PureC Try.prog 17 [intsV l, intsV m] [boolv (decide (l = m))] := by
  refine pureC_fit ⟨_, Try.func17, by kernel_rfl, rfl⟩ fun hf => ?_
  have hl : l.length ≤ 9223372036854775807 := fits_len (hf (intsV l) (by simp))
  refine pureC_of (Γ := lookT tbl) (il := ilist) tg dr Try.func17 rfl (by kernel_rfl) rfl (Nat.le_of_ble_eq_true rfl) ?_
  conv => whnf
  refine br_i (fun h => ?_) (fun h => ?_) <;> conv => whnf
  · refine leaf_i rfl rfl ?_
    have : l ≠ m := fun e => by subst e; simp at h
    simp [boolv, this]
  have hlen : l.length = m.length := by simp at h; omega
  refine loop_i (fun k : Nat => ⟨envL [(0, .c (.pv (intsP l))), (1, .c (.pv (intsP m))), (5, .c (.pv (.int .i64 k)))], resL [], 0, 26⟩) (fun k => k ≤ l.length ∧ l.take k = m.take k) (fun k => l.length - k) 0 ⟨Nat.zero_le _, rfl⟩ (le_mk [] rfl ⟨⟨rfl, rfl⟩, ⟨rfl, rfl⟩, ⟨rfl, rfl⟩, trivial⟩ trivial rfl) ?_
  intro k ⟨hk, hs⟩
  conv => whnf
  refine br_i (fun h => ?_) (fun h => ?_)
  · have hlt : k < l.length := by simpa using h
    have hlt2 : k < m.length := by omega
    conv => whnf
    refine ⟨_, idx_map l intEl k hlt 1, ?_⟩
    conv => whnf
    refine ⟨_, idx_map m intEl k hlt2 1, ?_⟩
    conv => whnf
    try refine And.intro rfl ?_
    conv => whnf
    refine br_i (fun h => ?_) (fun h => ?_) <;> conv => whnf
    · refine leaf_i rfl rfl ?_
      have : l ≠ m := ne_of_get hlt hlt2 (by simpa using h)
      simp [boolv, this]
    · exact ⟨k + 1, ⟨⟨hlt, take_eq_succ hs hlt hlt2 (by simpa using h)⟩, by omega⟩, le_mk [] rfl ⟨⟨rfl, rfl⟩, ⟨rfl, rfl⟩, ⟨ctr (by omega), rfl⟩, trivial⟩ trivial rfl⟩
  · have hk : l.length ≤ k := by simpa using h
    conv => whnf
    refine leaf_i rfl rfl ?_
    have : l = m := take_eq_all hs hk hlen.symm
    simp [boolv, this]
theorem eqSameO (l m : List Bool) : PureC Try.prog 18 [boolsV l, boolsV m] [boolv (decide (l = m))] := by
  refine pureC_fit ⟨_, Try.func18, by kernel_rfl, rfl⟩ fun hf => ?_
  have hl : l.length ≤ 9223372036854775807 := fits_len (hf (boolsV l) (by simp))
  refine pureC_of (Γ := lookT tbl) (il := ilist) tg dr Try.func18 rfl (by kernel_rfl) rfl (Nat.le_of_ble_eq_true rfl) ?_
  conv => whnf
  refine br_i (fun h => ?_) (fun h => ?_) <;> conv => whnf
  · refine leaf_i rfl rfl ?_
    have : l ≠ m := fun e => by subst e; simp at h
    simp [boolv, this]
  have hlen : l.length = m.length := by simp at h; omega
  refine loop_i (fun k : Nat => ⟨envL [(0, .c (.pv (boolsP l))), (1, .c (.pv (boolsP m))), (5, .c (.pv (.int .i64 k)))], resL [], 0, 26⟩) (fun k => k ≤ l.length ∧ l.take k = m.take k) (fun k => l.length - k) 0 ⟨Nat.zero_le _, rfl⟩ (le_mk [] rfl ⟨⟨rfl, rfl⟩, ⟨rfl, rfl⟩, ⟨rfl, rfl⟩, trivial⟩ trivial rfl) ?_
  intro k ⟨hk, hs⟩
  conv => whnf
  refine br_i (fun h => ?_) (fun h => ?_)
  · have hlt : k < l.length := by simpa using h
    have hlt2 : k < m.length := by omega
    conv => whnf
    refine ⟨_, idx_map l boolEl k hlt 1, ?_⟩
    conv => whnf
    refine ⟨_, idx_map m boolEl k hlt2 1, ?_⟩
    conv => whnf
    try refine And.intro rfl ?_
    conv => whnf
    refine br_i (fun h => ?_) (fun h => ?_) <;> conv => whnf
    · refine leaf_i rfl rfl ?_
      have : l ≠ m := ne_of_get hlt hlt2 (by simpa using h)
      simp [boolv, this]
    · exact ⟨k + 1, ⟨⟨hlt, take_eq_succ hs hlt hlt2 (by simpa using h)⟩, by omega⟩, le_mk [] rfl ⟨⟨rfl, rfl⟩, ⟨rfl, rfl⟩, ⟨ctr (by omega), rfl⟩, trivial⟩ trivial rfl⟩
  · have hk : l.length ≤ k := by simpa using h
    conv => whnf
    refine leaf_i rfl rfl ?_
    have : l = m := take_eq_all hs hk hlen.symm
    simp [boolv, this]
end Go.Proofs.Ytdgmaaiijkoedaa
