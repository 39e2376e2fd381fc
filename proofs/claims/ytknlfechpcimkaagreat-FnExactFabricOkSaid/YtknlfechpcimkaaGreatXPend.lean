/- Tables: what 'ok' means, in both packages. -/
import Derived.Test.YtknlfechpcimkaaGreatXResp
namespace Go.Proofs.YtknlfechpcimkaaGreat
open Go Go.Vi
set_option linter.unusedVariables false
set_option linter.unusedSimpArgs false
set_option maxRecDepth 100000
def cellB (p : XPend) (i : Nat) : Bool := partB (p.Parts.getD i XPart.zero) && (if p.Has.getD i false then suits (p.Parts.getD i XPart.zero).Req (p.Told.getD i XResp.zero) else decide (p.Told.getD i XResp.zero = XResp.zero))
def headB (p : XPend) : Bool := inB p.Source 0 1000000000 && inB p.Tag 0 1000000000 && specReq p.Req && inB p.Parts.length 1 8 && decide ((p.Has.length : Int) = p.Parts.length) && decide ((p.Told.length : Int) = p.Parts.length)
def pendB (p : XPend) : Bool := headB p && (List.range p.Parts.length).all (cellB p) && !p.Has.all id
theorem range_bad {p : XPend} {k : Nat} (hk : k < p.Parts.length) (h : cellB p k = false) : (List.range p.Parts.length).all (cellB p) = false := by
  rw [List.all_eq_false]
  exact ⟨k, List.mem_range.2 hk, by simp [h]⟩
theorem bad_leaf {p : XPend} {k : Nat} (hk : k < p.Parts.length) (h : cellB p k = false) : [VV.one (.bool false)] = [boolv (pendB p)] := by
  rw [show pendB p = false by simp [pendB, range_bad hk h]]; rfl
theorem range_end {p : XPend} {k : Nat} (hk : p.Parts.length ≤ k) (h : ∀ i, i < k → cellB p i = true) : (List.range p.Parts.length).all (cellB p) = true := by
  rw [List.all_eq_true]
  intro i hi
  exact h i (by have := List.mem_range.1 hi; omega)
theorem take_all_id {l : List Bool} {k : Nat} (hk : k < l.length) : (l.take (k + 1)).all id = ((l.take k).all id && l[k]) := by
  rw [List.take_succ_eq_append_getElem hk, List.all_append]
  simp
theorem s_Pend (p : XPend) : PureC Tryz.prog 39 [p.v] [boolv (pendB p)] := by
  refine pureC_of (Γ := lookT tbl) (il := ilist) tg dr Tryz.func39 rfl (by kernel_rfl) rfl (Nat.le_of_ble_eq_true rfl) ?_
  (repeat' ((conv => whnf); first | refine br_i (fun _ => ?_) (fun _ => ?_) | (refine cur_leaf rfl rfl rfl ?_ ?_; · first | assumption | omega | exact hw ‹_›) | refine leaf_i rfl rfl ?_ | refine And.intro rfl ?_ | refine call_i (s_in _ _ _) ?_ | (refine Or.inl ?_; (conv => whnf); refine call_i (s_in _ _ _) ?_) | refine call_i (s_ReqOk p.Req) ?_ | (refine Or.inl ?_; (conv => whnf); refine call_i (s_ReqOk p.Req) ?_) | (refine And.intro ?_ ?_; · decide)))
  all_goals try ((refine bool_leaf ?_; first | (simp_all [pendB, headB]; done) | (simp_all [pendB, headB]; omega)); done)
  have hH : headB p = true := by (first | (simp_all [headB]; done) | (simp_all [headB]; omega))
  have h8 : p.Parts.length ≤ 8 ∧ p.Has.length = p.Parts.length ∧ p.Told.length = p.Parts.length := by simp [headB, inB] at hH; omega
  obtain ⟨h8, hh, ht⟩ := h8
  conv => whnf
  refine loop_i (fun k : Nat => ⟨envL [(1, .c (.ptr 0 0)), (3, .c (.pv (.bool ((p.Has.take k).all id)))), (4, .c (.pv (.int .i64 k)))], resL [(0, .box (p.ps.map .pv))], 1, 109⟩) (fun k => k ≤ p.Parts.length ∧ ∀ i, i < k → cellB p i = true) (fun k => p.Parts.length - k) 0 ⟨Nat.zero_le _, by omega⟩ (le_mk [(0, _)] rfl ⟨⟨rfl, rfl⟩, ⟨rfl, rfl⟩, ⟨rfl, rfl⟩, trivial⟩ ⟨⟨rfl, rfl⟩, trivial⟩ rfl) ?_
  intro k ⟨hk, hs⟩
  conv => whnf
  refine br_i (fun h => ?_) (fun h => ?_)
  · have hlt : k < p.Parts.length := by simpa using h
    have hl2 : k < p.Has.length := by omega
    have hl3 : k < p.Told.length := by omega
    have c1 : cellB p k = (partB p.Parts[k] && (if p.Has[k] then suits p.Parts[k].Req p.Told[k] else decide (p.Told[k] = XResp.zero))) := by
      simp [cellB, List.getD, List.getElem?_eq_getElem hlt, List.getElem?_eq_getElem hl2, List.getElem?_eq_getElem hl3]
    have ha := take_all_id hl2
    clear h
    have f1 := s_part p.Parts[k]
    have f2 := s_Suits p.Parts[k].Req p.Told[k]
    have f3 := s_noResp p.Told[k]
    have i1 := idx_map p.Has boolEl k hl2 1
    generalize partB p.Parts[k] = A at *
    generalize suits p.Parts[k].Req p.Told[k] = B at *
    generalize p.Has[k] = C at *
    generalize decide (p.Told[k] = XResp.zero) = D at *
    (repeat' ((conv => whnf); first | refine br_i (fun _ => ?_) (fun _ => ?_) | (refine cur_leaf rfl rfl rfl ?_ ?_; · first | assumption | omega | exact hw ‹_›) | refine leaf_i rfl rfl ?_ | refine And.intro rfl ?_ | refine call_i (f1) ?_ | (refine Or.inl ?_; (conv => whnf); refine call_i (f1) ?_) | refine call_i (f2) ?_ | (refine Or.inl ?_; (conv => whnf); refine call_i (f2) ?_) | refine call_i (f3) ?_ | (refine Or.inl ?_; (conv => whnf); refine call_i (f3) ?_) | (refine ⟨_, idx_map p.Parts XPart.ps k hlt 8, ?_⟩) | (refine ⟨_, i1, ?_⟩) | (refine ⟨_, idx_map p.Told XResp.ps k hl3 6, ?_⟩) | (refine And.intro ?_ ?_; · decide)))
    all_goals try (refine bad_leaf (k := k) hlt ?_; rw [c1]; clear c1 hs hk f1 f2 f3 i1; cases A <;> cases B <;> cases C <;> cases D <;> simp_all)
    all_goals (have hc : cellB p k = true := by (rw [c1]; clear c1 hs hk f1 f2 f3 i1; cases A <;> cases B <;> cases C <;> cases D <;> simp_all))
    all_goals (have hn : ∀ i, i < k + 1 → cellB p i = true := by intro i hi; rcases Nat.lt_or_ge i k with h | h; exact hs i h; rw [show i = k by omega]; exact hc)
    all_goals (conv => whnf)
    all_goals exact ⟨k + 1, ⟨⟨hlt, hn⟩, by omega⟩, le_mk [(0, _)] rfl ⟨⟨rfl, rfl⟩, ⟨congrArg (fun b => AV.c (.pv (.bool b))) (by rw [ha]; clear c1 hs hk f1 f2 f3 i1 hn hc; cases C <;> simp_all), rfl⟩, ⟨ctr (by omega), rfl⟩, trivial⟩ ⟨⟨rfl, rfl⟩, trivial⟩ rfl⟩
  · have hge : p.Parts.length ≤ k := by simpa using h
    (repeat' ((conv => whnf); first | refine br_i (fun _ => ?_) (fun _ => ?_) | (refine cur_leaf rfl rfl rfl ?_ ?_; · first | assumption | omega | exact hw ‹_›) | refine leaf_i rfl rfl ?_ | refine And.intro rfl ?_ | (refine And.intro ?_ ?_; · decide)))
    all_goals (rw [List.take_of_length_le (by omega), show pendB p = !p.Has.all id by simp [pendB, hH, range_end hge hs]]; rfl)
theorem m_Pend (p : XPend) : PureC Tryz.prog 50 [p.v] [boolv (decide (p.Id ≥ 0) && pendB p)] := by
  refine pureC_of (Γ := lookT tbl) (il := ilist) tg dr Tryz.func50 rfl (by kernel_rfl) rfl (Nat.le_of_ble_eq_true rfl) ?_
  (repeat' ((conv => whnf); first | refine br_i (fun _ => ?_) (fun _ => ?_) | (refine cur_leaf rfl rfl rfl ?_ ?_; · first | assumption | omega | exact hw ‹_›) | refine leaf_i rfl rfl ?_ | refine And.intro rfl ?_ | refine call_i (m_in _ _ _) ?_ | (refine Or.inl ?_; (conv => whnf); refine call_i (m_in _ _ _) ?_) | refine call_i (m_count _) ?_ | (refine Or.inl ?_; (conv => whnf); refine call_i (m_count _) ?_) | refine call_i (m_ReqOk p.Req) ?_ | (refine Or.inl ?_; (conv => whnf); refine call_i (m_ReqOk p.Req) ?_) | (refine And.intro ?_ ?_; · decide)))
  all_goals try ((refine bool_leaf ?_; first | (simp_all [pendB, headB, implReq_eq]; done) | (simp_all [pendB, headB, implReq_eq]; omega)); done)
  have hH : headB p = true := by (first | (simp_all [headB, implReq_eq]; done) | (simp_all [headB, implReq_eq]; omega))
  have h8 : p.Parts.length ≤ 8 ∧ p.Has.length = p.Parts.length ∧ p.Told.length = p.Parts.length := by simp [headB, inB] at hH; omega
  obtain ⟨h8, hh, ht⟩ := h8
  have hid : decide (p.Id ≥ 0) = true := by (first | (simp_all []; done) | (simp_all []; omega))
  rw [hid, Bool.true_and]
  clear hid
  conv => whnf
  refine loop_i (fun k : Nat => ⟨envL [(1, .c (.ptr 0 0)), (50, .c (.pv (XPart.sP p.Parts))), (51, .c (.pv (.int .i64 p.Parts.length))), (52, .c (.pv (.int .i64 k)))], resL [(0, .box (p.ps.map .pv))], 1, 100⟩) (fun k => k ≤ p.Parts.length ∧ ∀ i, i < k → cellB p i = true) (fun k => p.Parts.length - k) 0 ⟨Nat.zero_le _, by omega⟩ (le_mk [(0, _)] rfl ⟨⟨rfl, rfl⟩, ⟨rfl, rfl⟩, ⟨i64_eq (by simp), rfl⟩, ⟨rfl, rfl⟩, trivial⟩ ⟨⟨rfl, rfl⟩, trivial⟩ rfl) ?_
  intro k ⟨hk, hs⟩
  conv => whnf
  refine br_i (fun h => ?_) (fun h => ?_)
  · have hlt : k < p.Parts.length := by simpa using h
    have hl2 : k < p.Has.length := by omega
    have hl3 : k < p.Told.length := by omega
    have c1 : cellB p k = (partB p.Parts[k] && (if p.Has[k] then suits p.Parts[k].Req p.Told[k] else decide (p.Told[k] = XResp.zero))) := by
      simp [cellB, List.getD, List.getElem?_eq_getElem hlt, List.getElem?_eq_getElem hl2, List.getElem?_eq_getElem hl3]
    clear h
    have f1 := m_part p.Parts[k]
    have f2 := m_Suits p.Parts[k].Req p.Told[k]
    have f3 := m_sameResp p.Told[k] XResp.zero
    have i1 := idx_map p.Has boolEl k hl2 1
    generalize partB p.Parts[k] = A at *
    generalize suits p.Parts[k].Req p.Told[k] = B at *
    generalize p.Has[k] = C at *
    generalize decide (p.Told[k] = XResp.zero) = D at *
    (repeat' ((conv => whnf); first | refine br_i (fun _ => ?_) (fun _ => ?_) | (refine cur_leaf rfl rfl rfl ?_ ?_; · first | assumption | omega | exact hw ‹_›) | refine leaf_i rfl rfl ?_ | refine And.intro rfl ?_ | refine call_i (f1) ?_ | (refine Or.inl ?_; (conv => whnf); refine call_i (f1) ?_) | refine call_i (f2) ?_ | (refine Or.inl ?_; (conv => whnf); refine call_i (f2) ?_) | refine call_i (f3) ?_ | (refine Or.inl ?_; (conv => whnf); refine call_i (f3) ?_) | (refine ⟨_, idx_map p.Parts XPart.ps k hlt 8, ?_⟩) | (refine ⟨_, i1, ?_⟩) | (refine ⟨_, idx_map p.Told XResp.ps k hl3 6, ?_⟩) | (refine And.intro ?_ ?_; · decide)))
    all_goals try (refine bad_leaf (k := k) hlt ?_; rw [c1]; clear c1 hs hk f1 f2 f3 i1; cases A <;> cases B <;> cases C <;> cases D <;> simp_all)
    all_goals (have hc : cellB p k = true := by (rw [c1]; clear c1 hs hk f1 f2 f3 i1; cases A <;> cases B <;> cases C <;> cases D <;> simp_all))
    all_goals (have hn : ∀ i, i < k + 1 → cellB p i = true := by intro i hi; rcases Nat.lt_or_ge i k with h | h; exact hs i h; rw [show i = k by omega]; exact hc)
    all_goals (conv => whnf)
    all_goals exact ⟨k + 1, ⟨⟨hlt, hn⟩, by omega⟩, le_mk [(0, _)] rfl ⟨⟨rfl, rfl⟩, ⟨rfl, rfl⟩, ⟨rfl, rfl⟩, ⟨ctr (by omega), rfl⟩, trivial⟩ ⟨⟨rfl, rfl⟩, trivial⟩ rfl⟩
  · have hge : p.Parts.length ≤ k := by simpa using h
    (repeat' ((conv => whnf); first | refine br_i (fun _ => ?_) (fun _ => ?_) | (refine cur_leaf rfl rfl rfl ?_ ?_; · first | assumption | omega | exact hw ‹_›) | refine leaf_i rfl rfl ?_ | refine And.intro rfl ?_ | refine call_i (m_containsB p.Has false) ?_ | (refine Or.inl ?_; (conv => whnf); refine call_i (m_containsB p.Has false) ?_) | (refine And.intro ?_ ?_; · decide)))
    all_goals (rw [show pendB p = !p.Has.all id by simp [pendB, hH, range_end hge hs]]; simp; rfl)

end Go.Proofs.YtknlfechpcimkaaGreat
