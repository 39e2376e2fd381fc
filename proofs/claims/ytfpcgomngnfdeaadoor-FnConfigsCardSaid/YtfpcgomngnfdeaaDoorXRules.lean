/- Rules: which are right, which one a place is of. -/
import Derived.Test.YtfpcgomngnfdeaaDoorXLineOk
namespace Go.Proofs.YtfpcgomngnfdeaaDoor
open Go Go.Vi
set_option linter.unusedVariables false
set_option linter.unusedSimpArgs false
set_option maxRecDepth 100000
theorem m_indexR (l : List XRule) (f : FuncId) (caps : List (List PV)) (p : XRule → Bool) (hp : ∀ x ∈ l, PureC Tryd.prog f (x.v :: caps.map .ptr) [boolv (!p x)]) : PureC Tryd.prog 64 [XRule.sV l, .clo f caps] [i64v (firstBad p l)] := by
  refine pureC_fit ⟨_, Tryd.func64, by kernel_rfl, rfl⟩ fun hf => ?_
  have hl : l.length ≤ 9223372036854775807 := fits_len (hf (XRule.sV l) (by simp))
  refine pureC_of (Γ := lookT tbl) (il := ilist) tg dr Tryd.func64 rfl (by kernel_rfl) rfl (Nat.le_of_ble_eq_true rfl) ?_
  conv => whnf
  refine loop_i (fun k : Nat => ⟨envL [(0, .c (.pv (XRule.sP l))), (1, .c (.clo f caps)), (7, .c (.pv (.int .i64 l.length))), (8, .c (.pv (.int .i64 k)))], resL [], 0, 19⟩) (fun k => k ≤ l.length ∧ (l.take k).all p = true) (fun k => l.length - k) 0 ⟨Nat.zero_le _, rfl⟩ (le_mk [] rfl ⟨⟨rfl, rfl⟩, ⟨rfl, rfl⟩, ⟨i64_eq (by rw [List.length_map]), rfl⟩, ⟨rfl, rfl⟩, trivial⟩ trivial rfl) ?_
  intro k ⟨hk, hs⟩
  conv => whnf
  refine br_i (fun h => ?_) (fun h => ?_)
  · have hlt : k < l.length := by simpa using h
    conv => whnf
    refine ⟨_, idx_map l XRule.ps k hlt 7, ?_⟩
    conv => whnf
    refine call_i (hp l[k] (List.getElem_mem hlt)) ?_
    conv => whnf
    refine br_i (fun h => ?_) (fun h => ?_) <;> conv => whnf
    · refine leaf_i rfl rfl ?_
      rw [firstBad_at hs hlt (by simpa using h)]
      rfl
    · exact ⟨k + 1, ⟨⟨hlt, all_succ hs hlt (by simpa using h)⟩, by omega⟩, le_mk [] rfl ⟨⟨rfl, rfl⟩, ⟨rfl, rfl⟩, ⟨rfl, rfl⟩, ⟨ctr (by omega), rfl⟩, trivial⟩ trivial rfl⟩
  · have hk : l.length ≤ k := by simpa using h
    conv => whnf
    refine leaf_i rfl rfl ?_
    rw [firstBad_none (all_end hs hk)]
    rfl
theorem m_containsR (l : List XRule) (f : FuncId) (caps : List (List PV)) (p : XRule → Bool) (hp : ∀ x ∈ l, PureC Tryd.prog f (x.v :: caps.map .ptr) [boolv (!p x)]) : PureC Tryd.prog 51 [XRule.sV l, .clo f caps] [boolv (!l.all p)] := by
  refine pureC_of (Γ := lookT tbl) (il := ilist) tg dr Tryd.func51 rfl (by kernel_rfl) rfl (Nat.le_of_ble_eq_true rfl) ?_
  (repeat' ((conv => whnf); first | refine br_i (fun _ => ?_) (fun _ => ?_) | (refine cur_leaf rfl rfl rfl ?_ ?_; · first | assumption | omega | exact hw ‹_›) | refine leaf_i rfl rfl ?_ | refine And.intro rfl ?_ | refine call_i (m_indexR l f caps p hp) ?_ | (refine Or.inl ?_; (conv => whnf); refine call_i (m_indexR l f caps p hp) ?_) | (refine And.intro ?_ ?_; · decide)))
  all_goals (rw [← firstBad_ge]; rfl)
def hitB (u s p : Int) (r : XRule) : Bool := decide (r.Unit = u) && decide (r.Space = s) && inB p r.Lo r.Hi
def ruleAt (l : List XRule) (u s p : Int) : Int := firstBad (fun r => !hitB u s p r) l
theorem all_getD {α : Type} {p : α → Bool} {l : List α} {k : Nat} (hk : k < l.length) (h : (l.take k).all p = true) (hp : p l[k] = true) : (l.take (k + 1)).all p = true := all_succ h hk hp
def ruleB (r : XRule) : Bool := inB r.Unit 1 247 && inB r.Space 0 3 && inB r.Lo 0 65535 && inB r.Hi r.Lo 65535 && inB r.Port 0 5 && inB r.To 1 247 && inB r.Shift (-65535) 65535 && inB (wrap64 (r.Lo + r.Shift)) 0 65535 && inB (wrap64 (r.Hi + r.Shift)) 0 65535
theorem m_isUnit (n : Int) : PureC Tryd.prog 61 [i64v n] [boolv (inB n 1 247)] := by
  refine pureC_of (Γ := lookT tbl) (il := ilist) tg dr Tryd.func61 rfl (by kernel_rfl) rfl (Nat.le_of_ble_eq_true rfl) ?_
  (repeat' ((conv => whnf); first | refine br_i (fun _ => ?_) (fun _ => ?_) | (refine cur_leaf rfl rfl rfl ?_ ?_; · first | assumption | omega | exact hw ‹_›) | refine leaf_i rfl rfl ?_ | refine And.intro rfl ?_ | refine call_i (m_in _ _ _) ?_ | (refine Or.inl ?_; (conv => whnf); refine call_i (m_in _ _ _) ?_) | (refine And.intro ?_ ?_; · decide)))
  all_goals rfl
theorem m_isPort (n : Int) : PureC Tryd.prog 63 [i64v n] [boolv (inB n 0 5)] := by
  refine pureC_of (Γ := lookT tbl) (il := ilist) tg dr Tryd.func63 rfl (by kernel_rfl) rfl (Nat.le_of_ble_eq_true rfl) ?_
  (repeat' ((conv => whnf); first | refine br_i (fun _ => ?_) (fun _ => ?_) | (refine cur_leaf rfl rfl rfl ?_ ?_; · first | assumption | omega | exact hw ‹_›) | refine leaf_i rfl rfl ?_ | refine And.intro rfl ?_ | refine call_i (m_in _ _ _) ?_ | (refine Or.inl ?_; (conv => whnf); refine call_i (m_in _ _ _) ?_) | (refine And.intro ?_ ?_; · decide)))
  all_goals rfl
theorem s_Rule (r : XRule) : PureC Tryd.prog 48 [r.v] [boolv (ruleB r)] := by
  refine pureC_of (Γ := lookT tbl) (il := ilist) tg dr Tryd.func48 rfl (by kernel_rfl) rfl (Nat.le_of_ble_eq_true rfl) ?_
  (repeat' ((conv => whnf); first | refine br_i (fun _ => ?_) (fun _ => ?_) | (refine cur_leaf rfl rfl rfl ?_ ?_; · first | assumption | omega | exact hw ‹_›) | refine leaf_i rfl rfl ?_ | refine And.intro rfl ?_ | refine call_i (s_in _ _ _) ?_ | (refine Or.inl ?_; (conv => whnf); refine call_i (s_in _ _ _) ?_) | (refine And.intro ?_ ?_; · decide)))
  all_goals (refine bool_leaf ?_; first | (simp_all [ruleB]; done) | (simp_all [ruleB]; omega))
theorem m_ruleOk (r : XRule) : PureC Tryd.prog 50 [r.v] [boolv (ruleB r)] := by
  refine pureC_of (Γ := lookT tbl) (il := ilist) tg dr Tryd.func50 rfl (by kernel_rfl) rfl (Nat.le_of_ble_eq_true rfl) ?_
  (repeat' ((conv => whnf); first | refine br_i (fun _ => ?_) (fun _ => ?_) | (refine cur_leaf rfl rfl rfl ?_ ?_; · first | assumption | omega | exact hw ‹_›) | refine leaf_i rfl rfl ?_ | refine And.intro rfl ?_ | refine call_i (m_in _ _ _) ?_ | (refine Or.inl ?_; (conv => whnf); refine call_i (m_in _ _ _) ?_) | refine call_i (m_isUnit _) ?_ | (refine Or.inl ?_; (conv => whnf); refine call_i (m_isUnit _) ?_) | refine call_i (m_isPort _) ?_ | (refine Or.inl ?_; (conv => whnf); refine call_i (m_isPort _) ?_) | refine call_i (m_word _) ?_ | (refine Or.inl ?_; (conv => whnf); refine call_i (m_word _) ?_) | (refine And.intro ?_ ?_; · decide)))
  all_goals (refine bool_leaf ?_; first | (simp_all [ruleB, word, inB, wrap64]; done) | (simp_all [ruleB, word, inB, wrap64]; omega))
def clash (x r : XRule) : Bool := decide (x.Unit = r.Unit) && decide (x.Space = r.Space) && decide (x.Lo ≤ r.Hi) && decide (r.Lo ≤ x.Hi)
def ruleIn (l : List XRule) (i : Nat) : Bool := match l[i]? with
  | some r => ruleB r && (l.take i).all fun x => !clash x r
  | none => true
def upto (f : Nat → Bool) (n : Nat) : Bool := (List.range n).all f
theorem upto_succ {f : Nat → Bool} {n : Nat} (h : upto f n = true) (h2 : f n = true) : upto f (n + 1) = true := by
  unfold upto at *
  rw [List.range_succ, List.all_append, h]
  simp [h2]
theorem upto_bad {f : Nat → Bool} {n k : Nat} (h : k < n) (h2 : f k = false) : upto f n = false := by
  unfold upto
  rw [List.all_eq_false]
  exact ⟨k, List.mem_range.2 h, by simp [h2]⟩
def rulesB (l : List XRule) : Bool := decide ((l.length : Int) ≤ 24) && upto (ruleIn l) l.length
theorem m_clash (x r : XRule) : PureC Tryd.prog 52 [x.v, .ptr r.ps] [boolv (!(!clash x r))] := by
  refine pureC_of (Γ := lookT tbl) (il := ilist) tg dr Tryd.func52 rfl (by kernel_rfl) rfl (Nat.le_of_ble_eq_true rfl) ?_
  (repeat' ((conv => whnf); first | refine br_i (fun _ => ?_) (fun _ => ?_) | (refine cur_leaf rfl rfl rfl ?_ ?_; · first | assumption | omega | exact hw ‹_›) | refine leaf_i rfl rfl ?_ | refine And.intro rfl ?_ | (refine And.intro ?_ ?_; · decide)))
  all_goals (refine bool_leaf ?_; first | (simp_all [clash]; done) | (simp_all [clash]; omega))
theorem ruleIn_at {l : List XRule} {k : Nat} (h : k < l.length) : ruleIn l k = (ruleB l[k] && (l.take k).all fun x => !clash x l[k]) := by
  unfold ruleIn
  rw [List.getElem?_eq_getElem h]
theorem m_RulesOk (l : List XRule) : PureC Tryd.prog 35 [XRule.sV l] [boolv (rulesB l)] := by
  refine pureC_fit ⟨_, Tryd.func35, by kernel_rfl, rfl⟩ fun hf => ?_
  have hl : l.length ≤ 9223372036854775807 := fits_len (hf (XRule.sV l) (by simp))
  refine pureC_of (Γ := lookT tbl) (il := ilist) tg dr Tryd.func35 rfl (by kernel_rfl) rfl (Nat.le_of_ble_eq_true rfl) ?_
  conv => whnf
  refine loop_i (fun k : Nat => ⟨envL [(0, .c (.pv (XRule.sP l))), (5, .c (.pv (XRule.sP l))), (6, .c (.pv (.int .i64 l.length))), (7, .c (.pv (.int .i64 k)))], resL [], 0, 26⟩) (fun k => k ≤ l.length ∧ upto (ruleIn l) k = true) (fun k => l.length - k) 0 ⟨Nat.zero_le _, rfl⟩ (le_mk [] rfl ⟨⟨rfl, rfl⟩, ⟨rfl, rfl⟩, ⟨i64_eq (by rw [List.length_map]), rfl⟩, ⟨rfl, rfl⟩, trivial⟩ trivial rfl) ?_
  intro k ⟨hk, hs⟩
  conv => whnf
  refine br_i (fun h => ?_) (fun h => ?_)
  · have hlt : k < l.length := by simpa using h
    have ix := idx_map l XRule.ps k hlt 7
    have hin := ruleIn_at hlt
    have hbad : ruleIn l k = false → rulesB l = false := fun h => by unfold rulesB; rw [upto_bad hlt h, Bool.and_false]
    have hC := m_containsR (l.take k) 52 [l[k].ps] (fun x => !clash x l[k]) (fun x _ => m_clash x l[k])
    have hct := cut_to XRule.ps 7 l (k : Int) k rfl hk
    generalize l[k] = r at *
    conv => whnf
    refine ⟨_, ix, ?_⟩
    conv => whnf
    refine call_i (m_ruleOk r) ?_
    conv => whnf
    refine br_i (fun h => ?_) (fun h => ?_)
    · conv => whnf
      refine leaf_i rfl rfl ?_
      rw [hbad (by rw [hin]; simp at h; rw [h]; rfl)]
      rfl
    · have hr : ruleB r = true := by simpa using h
      conv => whnf
      refine ⟨_, hct, ?_⟩
      conv => whnf
      refine call_i hC ?_
      conv => whnf
      refine br_i (fun h => ?_) (fun h => ?_)
      · conv => whnf
        refine leaf_i rfl rfl ?_
        rw [hbad (by rw [hin, hr, Bool.true_and]; simpa using h)]
        rfl
      · conv => whnf
        exact ⟨k + 1, ⟨⟨hlt, upto_succ hs (by rw [hin, hr, Bool.true_and]; simpa using h)⟩, by omega⟩, le_mk [] rfl ⟨⟨rfl, rfl⟩, ⟨rfl, rfl⟩, ⟨rfl, rfl⟩, ⟨ctr (by omega), rfl⟩, trivial⟩ trivial rfl⟩
  · have hk2 : k = l.length := by have := dge h; omega
    subst hk2
    conv => whnf
    refine leaf_i rfl rfl ?_
    unfold rulesB
    rw [hs, List.length_map]
    simp [boolv]
set_option maxHeartbeats 1000000 in
theorem s_RulesOk (l : List XRule) : PureC Tryd.prog 33 [XRule.sV l] [boolv (rulesB l)] := by
  refine pureC_fit ⟨_, Tryd.func33, by kernel_rfl, rfl⟩ fun hf => ?_
  have hl : l.length ≤ 9223372036854775807 := fits_len (hf (XRule.sV l) (by simp))
  refine pureC_of (Γ := lookT tbl) (il := ilist) tg dr Tryd.func33 rfl (by kernel_rfl) rfl (Nat.le_of_ble_eq_true rfl) ?_
  conv => whnf
  refine br_i (fun h => ?_) (fun h => ?_)
  · conv => whnf
    refine leaf_i rfl rfl ?_
    have h : (l.length : Int) > 24 := by simpa using h
    unfold rulesB
    rw [decide_eq_false (by omega), Bool.false_and]
    rfl
  have hlen : (l.length : Int) ≤ 24 := by simpa using h
  conv => whnf
  refine loop_i (fun k : Nat => ⟨envL [(0, .c (.pv (XRule.sP l))), (3, .c (.pv (.int .i64 k)))], resL [], 0, 75⟩) (fun k => k ≤ l.length ∧ upto (ruleIn l) k = true) (fun k => l.length - k) 0 ⟨Nat.zero_le _, rfl⟩ (le_mk [] rfl ⟨⟨rfl, rfl⟩, ⟨rfl, rfl⟩, trivial⟩ trivial rfl) ?_
  intro k ⟨hk, hs⟩
  conv => whnf
  refine br_i (fun h => ?_) (fun h => ?_)
  · have hlt : k < l.length := by simpa using h
    have ix := idx_map l XRule.ps k hlt 7
    have hin := ruleIn_at hlt
    have hbad : ruleIn l k = false → rulesB l = false := fun h => by unfold rulesB; rw [upto_bad hlt h, Bool.and_false]
    generalize l[k] = r at *
    conv => whnf
    refine ⟨_, ix, ?_⟩
    conv => whnf
    refine call_i (s_Rule r) ?_
    conv => whnf
    refine br_i (fun h => ?_) (fun h => ?_)
    · conv => whnf
      refine leaf_i rfl rfl ?_
      rw [hbad (by rw [hin]; simp at h; rw [h]; rfl)]
      rfl
    have hr : ruleB r = true := by simpa using h
    conv => whnf
    refine loop_i (fun j : Nat => ⟨envL [(0, .c (.pv (XRule.sP l))), (3, .c (.pv (.int .i64 k))), (4, .c (.pv (.int .i64 j)))], resL [], 0, 75⟩) (fun j => j ≤ k ∧ (l.take j).all (fun x => !clash x r) = true) (fun j => k - j) 0 ⟨Nat.zero_le _, rfl⟩ (le_mk [] rfl ⟨⟨rfl, rfl⟩, ⟨rfl, rfl⟩, ⟨rfl, rfl⟩, trivial⟩ trivial rfl) ?_
    intro j ⟨hj, hjs⟩
    conv => whnf
    refine br_i (fun h => ?_) (fun h => ?_)
    · have hjk : j < k := by simpa using h
      have hjl : j < l.length := by omega
      have jx := idx_map l XRule.ps j hjl 7
      have nxt : clash l[j] r = false → (l.take (j + 1)).all (fun x => !clash x r) = true := fun h => all_succ hjs hjl (by simp [h])
      have bad : clash l[j] r = true → rulesB l = false := fun h => hbad (by
        rw [hin, hr, Bool.true_and, List.all_eq_false]
        exact ⟨l[j], List.mem_take_iff_getElem.2 ⟨j, by omega, rfl⟩, by simp [h]⟩)
      generalize l[j] = x at *
      cases hh : clash x r with
      | true =>
        (repeat' ((conv => whnf); first | refine br_i (fun _ => ?_) (fun _ => ?_) | (refine cur_leaf rfl rfl rfl ?_ ?_; · first | assumption | omega | exact hw ‹_›) | refine leaf_i rfl rfl ?_ | refine And.intro rfl ?_ | (refine ⟨_, ix, ?_⟩) | (refine ⟨_, jx, ?_⟩) | (refine And.intro ?_ ?_; · decide)))
        all_goals first | (rw [bad hh]; rfl) | (exfalso; clear nxt bad hbad hin ix jx hs hjs hf hl hlen hk hr hj; simp_all [clash]; done) | (exfalso; clear nxt bad hbad hin ix jx hs hjs hf hl hlen hk hr hj; simp_all [clash]; omega)
      | false =>
        (repeat' ((conv => whnf); first | refine br_i (fun _ => ?_) (fun _ => ?_) | (refine cur_leaf rfl rfl rfl ?_ ?_; · first | assumption | omega | exact hw ‹_›) | refine leaf_i rfl rfl ?_ | refine And.intro rfl ?_ | (refine ⟨_, ix, ?_⟩) | (refine ⟨_, jx, ?_⟩) | (refine And.intro ?_ ?_; · decide)))
        all_goals first | (exfalso; clear nxt bad hbad hin ix jx hs hjs hf hl hlen hk hr hj; simp_all [clash]; done) | (exfalso; clear nxt bad hbad hin ix jx hs hjs hf hl hlen hk hr hj; simp_all [clash]; omega) | ((conv => whnf); exact ⟨j + 1, ⟨⟨hjk, nxt hh⟩, by omega⟩, le_mk [] rfl ⟨⟨rfl, rfl⟩, ⟨rfl, rfl⟩, ⟨ctr (by omega), rfl⟩, trivial⟩ trivial rfl⟩)
    · have hjk : j = k := by have := dge h; omega
      subst hjk
      conv => whnf
      exact ⟨j + 1, ⟨⟨hlt, upto_succ hs (by rw [hin, hr, Bool.true_and]; exact hjs)⟩, by omega⟩, le_mk [] rfl ⟨⟨rfl, rfl⟩, ⟨ctr (by omega), rfl⟩, trivial⟩ trivial rfl⟩
  · have hk2 : k = l.length := by have := dge h; rw [List.length_map] at this; omega
    subst hk2
    conv => whnf
    refine leaf_i rfl rfl ?_
    unfold rulesB
    rw [hs, decide_eq_true hlen]
    rfl

end Go.Proofs.YtfpcgomngnfdeaaDoor
