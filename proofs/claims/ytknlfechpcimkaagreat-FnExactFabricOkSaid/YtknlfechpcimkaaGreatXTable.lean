/- TableOk and Waiting: both packages' functions, and the laws. -/
import Derived.Test.YtknlfechpcimkaaGreatXPend
namespace Go.Proofs.YtknlfechpcimkaaGreat
open Go Go.Vi
set_option linter.unusedVariables false
set_option linter.unusedSimpArgs false
set_option maxRecDepth 100000
def rowB (t : XTable) (i : Nat) : Bool := pendB (t.List_.getD i XPend.zero) && (decide (0 ≤ (t.List_.getD i XPend.zero).Id) && decide ((t.List_.getD i XPend.zero).Id < t.Next)) && (decide (i = 0) || decide ((t.List_.getD (i - 1) XPend.zero).Id < (t.List_.getD i XPend.zero).Id))
def tableB (t : XTable) : Bool := inB t.Next 0 1000000000 && decide ((t.List_.length : Int) ≤ 16) && (List.range t.List_.length).all (rowB t)
theorem trow_bad {t : XTable} {k : Nat} (hk : k < t.List_.length) (h : rowB t k = false) : [VV.one (.bool false)] = [boolv (tableB t)] := by
  have : (List.range t.List_.length).all (rowB t) = false := by
    rw [List.all_eq_false]
    exact ⟨k, List.mem_range.2 hk, by simp [h]⟩
  rw [show tableB t = false by simp [tableB, this]]
  rfl
theorem trow_end {t : XTable} {k : Nat} (hk : t.List_.length ≤ k) (h : ∀ i, i < k → rowB t i = true) : (List.range t.List_.length).all (rowB t) = true := by
  rw [List.all_eq_true]
  intro i hi
  exact h i (by have := List.mem_range.1 hi; omega)
theorem s_TableOk (t : XTable) : PureC Tryz.prog 14 [t.v] [boolv (tableB t)] := by
  refine pureC_of (Γ := lookT tbl) (il := ilist) tg dr Tryz.func14 rfl (by kernel_rfl) rfl (Nat.le_of_ble_eq_true rfl) ?_
  (repeat' ((conv => whnf); first | refine br_i (fun _ => ?_) (fun _ => ?_) | (refine cur_leaf rfl rfl rfl ?_ ?_; · first | assumption | omega | exact hw ‹_›) | refine leaf_i rfl rfl ?_ | refine And.intro rfl ?_ | refine call_i (s_in _ _ _) ?_ | (refine Or.inl ?_; (conv => whnf); refine call_i (s_in _ _ _) ?_) | (refine And.intro ?_ ?_; · decide)))
  all_goals try ((refine bool_leaf ?_; first | (simp_all [tableB]; done) | (simp_all [tableB]; omega)); done)
  have hH : inB t.Next 0 1000000000 = true := by (first | (simp_all []; done) | (simp_all []; omega))
  have hl : t.List_.length ≤ 16 := by rename_i h; simp at h; omega
  have hN : 0 ≤ t.Next ∧ t.Next ≤ 1000000000 := by simp [inB] at hH; omega
  have hw : IntKind.i64.wrap (t.Next - 1) = t.Next - 1 := wrap_ok (by omega) (by omega)
  conv => whnf
  refine loop_i (fun k : Nat => ⟨envL [(1, .c (.ptr 0 0)), (3, .c (.pv (.int .i64 k)))], resL [(0, .box (t.ps.map .pv))], 1, 61⟩) (fun k => k ≤ t.List_.length ∧ ∀ i, i < k → rowB t i = true) (fun k => t.List_.length - k) 0 ⟨Nat.zero_le _, by omega⟩ (le_mk [(0, _)] rfl ⟨⟨rfl, rfl⟩, ⟨rfl, rfl⟩, trivial⟩ ⟨⟨rfl, rfl⟩, trivial⟩ rfl) ?_
  intro k ⟨hk, hs⟩
  conv => whnf
  refine br_i (fun h => ?_) (fun h => ?_)
  · have hlt : k < t.List_.length := by simpa using h
    have c1 : rowB t k = (pendB t.List_[k] && (decide (0 ≤ t.List_[k].Id) && decide (t.List_[k].Id < t.Next)) && (decide (k = 0) || decide ((t.List_.getD (k - 1) XPend.zero).Id < t.List_[k].Id))) := by
      have hg : t.List_.getD k XPend.zero = t.List_[k] := by simp [List.getD, List.getElem?_eq_getElem hlt]
      rw [rowB, hg]
    have ip : 0 < k → (0 ≤ IntKind.i64.wrap ((k : Int) - 1) ∧ (t.List_.map XPend.ps)[(IntKind.i64.wrap ((k : Int) - 1)).toNat]? = some (XPend.ps (t.List_.getD (k - 1) XPend.zero))) ∧ 13 = 13 := by
      intro h0
      have hw1 : IntKind.i64.wrap ((k : Int) - 1) = ((k - 1 : Nat) : Int) := (wrap_ok (by omega) (by omega)).trans (by omega)
      rw [hw1]
      refine ⟨⟨by omega, ?_⟩, rfl⟩
      rw [List.getElem?_map, Int.toNat_natCast, List.getElem?_eq_getElem (by omega)]
      simp [List.getD, List.getElem?_eq_getElem (show k - 1 < t.List_.length by omega)]
    have f1 := s_Pend t.List_[k]
    have i1 := idx_map t.List_ XPend.ps k hlt 13
    have f2 : PureC Tryz.prog 15 [i64v t.List_[k].Id, i64v 0, i64v (IntKind.i64.wrap (t.Next - 1))] [boolv (decide (0 ≤ t.List_[k].Id) && decide (t.List_[k].Id < t.Next))] := by
      have := s_in t.List_[k].Id 0 (IntKind.i64.wrap (t.Next - 1))
      rwa [hw, show inB t.List_[k].Id 0 (t.Next - 1) = (decide (0 ≤ t.List_[k].Id) && decide (t.List_[k].Id < t.Next)) by rw [Bool.eq_iff_iff]; simp [inB]; omega, ← hw] at this
    generalize pendB t.List_[k] = A at *
    generalize (decide (0 ≤ t.List_[k].Id) && decide (t.List_[k].Id < t.Next)) = B at *
    (repeat' ((conv => whnf); first | refine br_i (fun _ => ?_) (fun _ => ?_) | (refine cur_leaf rfl rfl rfl ?_ ?_; · first | assumption | omega | exact hw ‹_›) | refine leaf_i rfl rfl ?_ | refine And.intro rfl ?_ | refine call_i (f1) ?_ | (refine Or.inl ?_; (conv => whnf); refine call_i (f1) ?_) | refine call_i (f2) ?_ | (refine Or.inl ?_; (conv => whnf); refine call_i (f2) ?_) | (refine ⟨_, i1, ?_⟩) | (refine ⟨_, ip (by clear hs c1 ip; simp at *; omega), ?_⟩) | (refine And.intro ?_ ?_; · decide)))
    all_goals try (refine trow_bad (k := k) hlt ?_; rw [c1]; clear c1 hs hk f1 f2 i1 ip; cases A <;> cases B <;> simp_all <;> omega)
    all_goals (have hc : rowB t k = true := by (rw [c1]; clear c1 hs hk f1 f2 i1 ip; cases A <;> cases B <;> simp_all <;> omega))
    all_goals (have hn : ∀ i, i < k + 1 → rowB t i = true := by intro i hi; rcases Nat.lt_or_ge i k with h | h; exact hs i h; rw [show i = k by omega]; exact hc)
    all_goals (conv => whnf)
    all_goals exact ⟨k + 1, ⟨⟨hlt, hn⟩, by omega⟩, le_mk [(0, _)] rfl ⟨⟨rfl, rfl⟩, ⟨ctr (by omega), rfl⟩, trivial⟩ ⟨⟨rfl, rfl⟩, trivial⟩ rfl⟩
  · have hge : t.List_.length ≤ k := by simpa using h
    have he := trow_end hge hs
    clear hs h
    (repeat' ((conv => whnf); first | refine br_i (fun _ => ?_) (fun _ => ?_) | (refine cur_leaf rfl rfl rfl ?_ ?_; · first | assumption | omega | exact hw ‹_›) | refine leaf_i rfl rfl ?_ | refine And.intro rfl ?_ | (refine And.intro ?_ ?_; · decide)))
    all_goals (refine bool_leaf ?_; first | (simp_all [tableB, he]; done) | (simp_all [tableB, he]; omega))
theorem m_TableOk (t : XTable) (hl : t.List_.length ≤ 1048577) : PureC Tryz.prog 25 [t.v] [boolv (tableB t)] := by
  refine pureC_of (Γ := lookT tbl) (il := ilist) tg dr Tryz.func25 rfl (by kernel_rfl) rfl (Nat.le_of_ble_eq_true rfl) ?_
  conv => whnf
  refine loop_i (fun k : Nat => ⟨envL [(1, .c (.ptr 0 0)), (6, .c (.pv (XPend.sP t.List_))), (7, .c (.pv (.int .i64 t.List_.length))), (8, .c (.pv (.int .i64 k)))], resL [(0, .box (t.ps.map .pv))], 1, 49⟩) (fun k => k ≤ t.List_.length ∧ ∀ i, i < k → rowB t i = true) (fun k => t.List_.length - k) 0 ⟨Nat.zero_le _, by omega⟩ (le_mk [(0, _)] rfl ⟨⟨rfl, rfl⟩, ⟨rfl, rfl⟩, ⟨i64_eq (by simp), rfl⟩, ⟨rfl, rfl⟩, trivial⟩ ⟨⟨rfl, rfl⟩, trivial⟩ rfl) ?_
  intro k ⟨hk, hs⟩
  conv => whnf
  refine br_i (fun h => ?_) (fun h => ?_)
  · have hlt : k < t.List_.length := by simpa using h
    have c1 : rowB t k = (pendB t.List_[k] && (decide (0 ≤ t.List_[k].Id) && decide (t.List_[k].Id < t.Next)) && (decide (k = 0) || decide ((t.List_.getD (k - 1) XPend.zero).Id < t.List_[k].Id))) := by
      have hg : t.List_.getD k XPend.zero = t.List_[k] := by simp [List.getD, List.getElem?_eq_getElem hlt]
      rw [rowB, hg]
    have ip : 0 < k → (0 ≤ IntKind.i64.wrap ((k : Int) - 1) ∧ (t.List_.map XPend.ps)[(IntKind.i64.wrap ((k : Int) - 1)).toNat]? = some (XPend.ps (t.List_.getD (k - 1) XPend.zero))) ∧ 13 = 13 := by
      intro h0
      have hw1 : IntKind.i64.wrap ((k : Int) - 1) = ((k - 1 : Nat) : Int) := (wrap_ok (by omega) (by omega)).trans (by omega)
      rw [hw1]
      refine ⟨⟨by omega, ?_⟩, rfl⟩
      rw [List.getElem?_map, Int.toNat_natCast, List.getElem?_eq_getElem (by omega)]
      simp [List.getD, List.getElem?_eq_getElem (show k - 1 < t.List_.length by omega)]
    have f1 := m_Pend t.List_[k]
    have i1 := idx_map t.List_ XPend.ps k hlt 13
    generalize pendB t.List_[k] = A at *
    (repeat' ((conv => whnf); first | refine br_i (fun _ => ?_) (fun _ => ?_) | (refine cur_leaf rfl rfl rfl ?_ ?_; · first | assumption | omega | exact hw ‹_›) | refine leaf_i rfl rfl ?_ | refine And.intro rfl ?_ | refine call_i (f1) ?_ | (refine Or.inl ?_; (conv => whnf); refine call_i (f1) ?_) | (refine ⟨_, i1, ?_⟩) | (refine ⟨_, ip (by clear hs c1 ip; simp at *; omega), ?_⟩) | (refine And.intro ?_ ?_; · decide)))
    all_goals try (refine trow_bad (k := k) hlt ?_; rw [c1]; clear c1 hs hk f1 i1 ip; cases A <;> simp_all <;> omega)
    all_goals (have hc : rowB t k = true := by (rw [c1]; clear c1 hs hk f1 i1 ip; cases A <;> simp_all <;> omega))
    all_goals (have hn : ∀ i, i < k + 1 → rowB t i = true := by intro i hi; rcases Nat.lt_or_ge i k with h | h; exact hs i h; rw [show i = k by omega]; exact hc)
    all_goals (conv => whnf)
    all_goals exact ⟨k + 1, ⟨⟨hlt, hn⟩, by omega⟩, le_mk [(0, _)] rfl ⟨⟨rfl, rfl⟩, ⟨rfl, rfl⟩, ⟨rfl, rfl⟩, ⟨ctr (by omega), rfl⟩, trivial⟩ ⟨⟨rfl, rfl⟩, trivial⟩ rfl⟩
  · have hge : t.List_.length ≤ k := by simpa using h
    have he := trow_end hge hs
    clear hs h
    (repeat' ((conv => whnf); first | refine br_i (fun _ => ?_) (fun _ => ?_) | (refine cur_leaf rfl rfl rfl ?_ ?_; · first | assumption | omega | exact hw ‹_›) | refine leaf_i rfl rfl ?_ | refine And.intro rfl ?_ | refine call_i (m_count _) ?_ | (refine Or.inl ?_; (conv => whnf); refine call_i (m_count _) ?_) | (refine And.intro ?_ ?_; · decide)))
    all_goals (refine bool_leaf ?_; first | (simp_all [tableB, he]; done) | (simp_all [tableB, he]; omega))
def cntF (l : List Bool) : Nat := (l.filter (fun b => !b)).length
def waitN (t : XTable) : Nat := sumF (fun p : XPend => cntF p.Has) t.List_
def waitF (t : XTable) : Int := if tableB t then (waitN t : Nat) else 0
theorem cnt_le (l : List Bool) : cntF l ≤ l.length := List.length_filter_le _ _
theorem cnt_take (l : List Bool) (k : Nat) (h : k < l.length) : cntF (l.take (k + 1)) = cntF (l.take k) + (if l[k] then 0 else 1) := by
  unfold cntF
  rw [List.take_succ_eq_append_getElem h, List.filter_append, List.length_append]
  cases l[k] <;> simp
theorem sumF_mono {α : Type} (f g : α → Nat) (l : List α) (h : ∀ x ∈ l, f x ≤ g x) : sumF f l ≤ sumF g l := by
  induction l with
  | nil => simp [sumF]
  | cons a l ih => have := h a (by simp); have := ih (fun x hx => h x (by simp [hx])); simp [sumF]; omega
theorem wait_le (t : XTable) : waitN t ≤ t.tot := by
  have := sumF_mono (fun p : XPend => cntF p.Has) XPend.tot t.List_ (fun p _ => by have := cnt_le p.Has; unfold XPend.tot; omega)
  have h1 : t.tot = t.List_.length + sumF XPend.tot t.List_ := rfl
  unfold waitN
  omega
theorem m_Waiting (t : XTable) (ht : t.tot ≤ 1048576) : PureC Tryz.prog 31 [t.v] [i64v (waitF t)] := by
  refine pureC_of (Γ := lookT tbl) (il := ilist) tg dr Tryz.func31 rfl (by kernel_rfl) rfl (Nat.le_of_ble_eq_true rfl) ?_
  have h1 : t.tot = t.List_.length + sumF XPend.tot t.List_ := rfl
  have f := m_TableOk t (by omega)
  have hwl := wait_le t
  unfold waitF
  generalize tableB t = A at *
  cases A with
  | false => (repeat' ((conv => whnf); first | refine br_i (fun _ => ?_) (fun _ => ?_) | (refine cur_leaf rfl rfl rfl ?_ ?_; · first | assumption | omega | exact hw ‹_›) | refine leaf_i rfl rfl ?_ | refine And.intro rfl ?_ | refine call_i (f) ?_ | (refine Or.inl ?_; (conv => whnf); refine call_i (f) ?_) | (refine And.intro ?_ ?_; · decide))); all_goals rfl
  | true =>
  conv => whnf
  refine call_i f ?_
  conv => whnf
  refine loop_i (fun k : Nat => ⟨envL [(3, .c (.pv (.int .i64 (sumF (fun p : XPend => cntF p.Has) (t.List_.take k) : Nat)))), (12, .c (.pv (XPend.sP t.List_))), (13, .c (.pv (.int .i64 t.List_.length))), (14, .c (.pv (.int .i64 k)))], resL [], 0, 32⟩) (fun k => k ≤ t.List_.length) (fun k => t.List_.length - k) 0 (Nat.zero_le _) (le_mk [] rfl ⟨⟨i64_eq (by simp [sumF]), rfl⟩, ⟨rfl, rfl⟩, ⟨i64_eq (by simp), rfl⟩, ⟨rfl, rfl⟩, trivial⟩ trivial rfl) ?_
  intro k hk
  conv => whnf
  refine br_i (fun h => ?_) (fun h => ?_)
  · have hlt : k < t.List_.length := by simpa using h
    have hsu := sumF_succ (fun p : XPend => cntF p.Has) t.List_ k hlt
    have hge := sumF_get (fun p : XPend => cntF p.Has) t.List_ k hlt
    have hgt := sumF_get XPend.tot t.List_ k hlt
    have hhl : t.List_[k].Has.length ≤ 1048576 := by have : t.List_[k].Has.length ≤ XPend.tot t.List_[k] := by unfold XPend.tot; omega
                                                     omega
    unfold waitN at hwl
    conv => whnf
    refine ⟨_, idx_map t.List_ XPend.ps k hlt 13, ?_⟩
    generalize hs0 : sumF (fun p : XPend => cntF p.Has) (t.List_.take k) = s0 at *
    conv => whnf
    refine loop_i (fun j : Nat => ⟨envL [(3, .c (.pv (.int .i64 (s0 + cntF (t.List_[k].Has.take j) : Nat)))), (12, .c (.pv (XPend.sP t.List_))), (13, .c (.pv (.int .i64 t.List_.length))), (14, .c (.pv (.int .i64 k))), (19, .c (.pv (boolsP t.List_[k].Has))), (20, .c (.pv (.int .i64 t.List_[k].Has.length))), (21, .c (.pv (.int .i64 j)))], resL [], 0, 32⟩) (fun j => j ≤ t.List_[k].Has.length) (fun j => t.List_[k].Has.length - j) 0 (Nat.zero_le _) (le_mk [] rfl ⟨⟨i64_eq (by simp [cntF]), rfl⟩, ⟨rfl, rfl⟩, ⟨rfl, rfl⟩, ⟨rfl, rfl⟩, ⟨rfl, rfl⟩, ⟨i64_eq (by simp), rfl⟩, ⟨rfl, rfl⟩, trivial⟩ trivial rfl) ?_
    intro j hj
    conv => whnf
    refine br_i (fun h => ?_) (fun h => ?_)
    · have hjt : j < t.List_[k].Has.length := by simpa using h
      have hct := cnt_take t.List_[k].Has j hjt
      have hc1 := cnt_le (t.List_[k].Has.take (j + 1))
      have hc2 := cnt_le (t.List_[k].Has.take j)
      rw [List.length_take] at hc1 hc2
      conv => whnf
      refine ⟨_, idx_map t.List_[k].Has boolEl j hjt 1, ?_⟩
      conv => whnf
      refine br_i (fun h => ?_) (fun h => ?_)
      · have hb : t.List_[k].Has[j] = false := by simpa using h
        rw [hb] at hct
        conv => whnf
        exact ⟨j + 1, ⟨hjt, by omega⟩, le_mk [] rfl ⟨⟨i64_eq (by rw [hct]; exact (wrap_ok (by omega) (by omega)).trans (by simp; omega)), rfl⟩, ⟨rfl, rfl⟩, ⟨rfl, rfl⟩, ⟨rfl, rfl⟩, ⟨rfl, rfl⟩, ⟨rfl, rfl⟩, ⟨ctr (by omega), rfl⟩, trivial⟩ trivial rfl⟩
      · have hb : t.List_[k].Has[j] = true := by simpa using h
        rw [hb] at hct
        conv => whnf
        exact ⟨j + 1, ⟨hjt, by omega⟩, le_mk [] rfl ⟨⟨i64_eq (by rw [hct]; simp), rfl⟩, ⟨rfl, rfl⟩, ⟨rfl, rfl⟩, ⟨rfl, rfl⟩, ⟨rfl, rfl⟩, ⟨rfl, rfl⟩, ⟨ctr (by omega), rfl⟩, trivial⟩ trivial rfl⟩
    · have hj2 : t.List_[k].Has.length ≤ j := by simp at h; omega
      rw [List.take_of_length_le hj2]
      conv => whnf
      exact ⟨k + 1, ⟨hlt, by omega⟩, le_mk [] rfl ⟨⟨i64_eq (by rw [hsu]), rfl⟩, ⟨rfl, rfl⟩, ⟨rfl, rfl⟩, ⟨ctr (by omega), rfl⟩, trivial⟩ trivial rfl⟩
  · have hk2 : k = t.List_.length := by simp at h; omega
    subst hk2
    (repeat' ((conv => whnf); first | refine br_i (fun _ => ?_) (fun _ => ?_) | (refine cur_leaf rfl rfl rfl ?_ ?_; · first | assumption | omega | exact hw ‹_›) | refine leaf_i rfl rfl ?_ | refine And.intro rfl ?_ | (refine And.intro ?_ ?_; · decide)))
    all_goals (rw [List.take_length]; rfl)
theorem s_Waiting (t : XTable) (ht : t.tot ≤ 1048576) : PureC Tryz.prog 19 [t.v] [i64v (waitF t)] := by
  refine pureC_of (Γ := lookT tbl) (il := ilist) tg dr Tryz.func19 rfl (by kernel_rfl) rfl (Nat.le_of_ble_eq_true rfl) ?_
  have h1 : t.tot = t.List_.length + sumF XPend.tot t.List_ := rfl
  have f := s_TableOk t
  have hwl := wait_le t
  unfold waitF
  generalize tableB t = A at *
  conv => whnf
  refine loop_i (fun k : Nat => ⟨envL [(1, .c (.ptr 0 0)), (3, .c (.pv (.int .i64 (sumF (fun p : XPend => cntF p.Has) (t.List_.take k) : Nat)))), (4, .c (.pv (.int .i64 k)))], resL [(0, .box (t.ps.map .pv))], 1, 41⟩) (fun k => k ≤ t.List_.length ∧ (A = false → k = 0)) (fun k => t.List_.length - k) 0 ⟨Nat.zero_le _, fun _ => rfl⟩ (le_mk [(0, _)] rfl ⟨⟨rfl, rfl⟩, ⟨i64_eq (by simp [sumF]), rfl⟩, ⟨rfl, rfl⟩, trivial⟩ ⟨⟨rfl, rfl⟩, trivial⟩ rfl) ?_
  intro k ⟨hk, hA⟩
  conv => whnf
  refine br_i (fun h => ?_) (fun h => ?_)
  · have hlt : k < t.List_.length := by simpa using h
    conv => whnf
    refine call_i f ?_
    cases A with
    | false =>
      obtain rfl := hA rfl
      (repeat' ((conv => whnf); first | refine br_i (fun _ => ?_) (fun _ => ?_) | (refine cur_leaf rfl rfl rfl ?_ ?_; · first | assumption | omega | exact hw ‹_›) | refine leaf_i rfl rfl ?_ | refine And.intro rfl ?_ | (refine And.intro ?_ ?_; · decide)))
      all_goals (simp [sumF]; rfl)
    | true =>
    have hsu := sumF_succ (fun p : XPend => cntF p.Has) t.List_ k hlt
    have hge := sumF_get (fun p : XPend => cntF p.Has) t.List_ k hlt
    have hgt := sumF_get XPend.tot t.List_ k hlt
    have hhl : t.List_[k].Has.length ≤ 1048576 := by have : t.List_[k].Has.length ≤ XPend.tot t.List_[k] := by unfold XPend.tot; omega
                                                     omega
    unfold waitN at hwl
    generalize hs0 : sumF (fun p : XPend => cntF p.Has) (t.List_.take k) = s0 at *
    conv => whnf
    refine loop_i (fun j : Nat => ⟨envL [(1, .c (.ptr 0 0)), (3, .c (.pv (.int .i64 (s0 + cntF (t.List_[k].Has.take j) : Nat)))), (4, .c (.pv (.int .i64 k))), (5, .c (.pv (.int .i64 j)))], resL [(0, .box (t.ps.map .pv))], 1, 41⟩) (fun j => j ≤ t.List_[k].Has.length) (fun j => t.List_[k].Has.length - j) 0 (Nat.zero_le _) (le_mk [(0, _)] rfl ⟨⟨rfl, rfl⟩, ⟨i64_eq (by simp [cntF]), rfl⟩, ⟨rfl, rfl⟩, ⟨rfl, rfl⟩, trivial⟩ ⟨⟨rfl, rfl⟩, trivial⟩ rfl) ?_
    intro j hj
    conv => whnf
    refine ⟨_, idx_map t.List_ XPend.ps k hlt 13, ?_⟩
    conv => whnf
    refine br_i (fun h => ?_) (fun h => ?_)
    · have hjt : j < t.List_[k].Has.length := by simpa using h
      have hct := cnt_take t.List_[k].Has j hjt
      have hc1 := cnt_le (t.List_[k].Has.take (j + 1))
      have hc2 := cnt_le (t.List_[k].Has.take j)
      rw [List.length_take] at hc1 hc2
      conv => whnf
      refine ⟨_, idx_map t.List_ XPend.ps k hlt 13, ?_⟩
      conv => whnf
      refine ⟨_, idx_map t.List_[k].Has boolEl j hjt 1, ?_⟩
      conv => whnf
      refine br_i (fun h => ?_) (fun h => ?_)
      · have hb : t.List_[k].Has[j] = false := by simpa using h
        rw [hb] at hct
        conv => whnf
        exact ⟨j + 1, ⟨hjt, by omega⟩, le_mk [(0, _)] rfl ⟨⟨rfl, rfl⟩, ⟨i64_eq (by rw [hct]; exact (wrap_ok (by omega) (by omega)).trans (by simp; omega)), rfl⟩, ⟨rfl, rfl⟩, ⟨ctr (by omega), rfl⟩, trivial⟩ ⟨⟨rfl, rfl⟩, trivial⟩ rfl⟩
      · have hb : t.List_[k].Has[j] = true := by simpa using h
        rw [hb] at hct
        conv => whnf
        exact ⟨j + 1, ⟨hjt, by omega⟩, le_mk [(0, _)] rfl ⟨⟨rfl, rfl⟩, ⟨i64_eq (by rw [hct]; simp), rfl⟩, ⟨rfl, rfl⟩, ⟨ctr (by omega), rfl⟩, trivial⟩ ⟨⟨rfl, rfl⟩, trivial⟩ rfl⟩
    · have hj2 : t.List_[k].Has.length ≤ j := by simp at h; omega
      rw [List.take_of_length_le hj2]
      conv => whnf
      exact ⟨k + 1, ⟨⟨hlt, fun h => by cases h⟩, by omega⟩, le_mk [(0, _)] rfl ⟨⟨rfl, rfl⟩, ⟨i64_eq (by rw [hsu]), rfl⟩, ⟨ctr (by omega), rfl⟩, trivial⟩ ⟨⟨rfl, rfl⟩, trivial⟩ rfl⟩
  · have hk2 : k = t.List_.length := by simp at h; omega
    have hw0 : A = false → sumF (fun p : XPend => cntF p.Has) (t.List_.take k) = 0 := fun e => by rw [hA e]; simp [sumF]
    (repeat' ((conv => whnf); first | refine br_i (fun _ => ?_) (fun _ => ?_) | (refine cur_leaf rfl rfl rfl ?_ ?_; · first | assumption | omega | exact hw ‹_›) | refine leaf_i rfl rfl ?_ | refine And.intro rfl ?_ | (refine And.intro ?_ ?_; · decide)))
    cases A with
    | false => rw [hw0 rfl]; rfl
    | true => rw [hk2, List.take_length]; rfl
end Go.Proofs.YtknlfechpcimkaaGreat
