/- Answers joined, a matter found: the program's side. -/
import Derived.Test.YtnpcgheojijpjaaXTaD
namespace Go.Proofs.Ytnpcgheojijpjaa
open Go Go.Vi
set_option linter.unusedVariables false
set_option linter.unusedSimpArgs false
set_option maxRecDepth 100000
theorem m_FaultOf (q : XReq) (f : Int) : PureC Try.prog 39 [q.v, i64v f] [(faultOf q f).v] := by
  refine pureC_of (Γ := lookT tbl) (il := ilist) tg dr Try.func39 rfl (by kernel_rfl) rfl (Nat.le_of_ble_eq_true rfl) ?_
  have hR := m_ReqOk q
  rw [implReq_eq] at hR
  (repeat' ((conv => whnf); first | refine br_i (fun _ => ?_) (fun _ => ?_) | (refine cur_leaf rfl rfl rfl ?_ ?_; · first | assumption | omega | exact hw ‹_›) | refine leaf_i rfl rfl ?_ | refine And.intro rfl ?_ | refine call_i (hR) ?_ | (refine Or.inl ?_; (conv => whnf); refine call_i (hR) ?_) | refine call_i (m_in _ _ _) ?_ | (refine Or.inl ?_; (conv => whnf); refine call_i (m_in _ _ _) ?_) | (refine And.intro ?_ ?_; · decide)))
  all_goals first | (rw [show faultOf q f = XResp.zero by simp_all [faultOf]]; rfl) | (rw [show faultOf q f = { XResp.zero with Kind := q.Kind, Fault := f } by simp_all [faultOf]]; rfl)
theorem m_indexP (l : List XPend) (f : FuncId) (caps : List (List PV)) (p : XPend → Bool) (hp : ∀ x ∈ l, PureC Try.prog f (x.v :: caps.map .ptr) [boolv (!p x)]) : PureC Try.prog 71 [XPend.sV l, .clo f caps] [i64v (firstBad p l)] := by
  refine pureC_fit ⟨_, Try.func71, by kernel_rfl, rfl⟩ fun hf => ?_
  have hl : l.length ≤ 9223372036854775807 := fits_len (hf (XPend.sV l) (by simp))
  refine pureC_of (Γ := lookT tbl) (il := ilist) tg dr Try.func71 rfl (by kernel_rfl) rfl (Nat.le_of_ble_eq_true rfl) ?_
  conv => whnf
  refine loop_i (fun k : Nat => ⟨envL [(0, .c (.pv (XPend.sP l))), (1, .c (.clo f caps)), (7, .c (.pv (.int .i64 l.length))), (8, .c (.pv (.int .i64 k)))], resL [], 0, 19⟩) (fun k => k ≤ l.length ∧ (l.take k).all p = true) (fun k => l.length - k) 0 ⟨Nat.zero_le _, rfl⟩ (le_mk [] rfl ⟨⟨rfl, rfl⟩, ⟨rfl, rfl⟩, ⟨i64_eq (by rw [List.length_map]), rfl⟩, ⟨rfl, rfl⟩, trivial⟩ trivial rfl) ?_
  intro k ⟨hk, hs⟩
  conv => whnf
  refine br_i (fun h => ?_) (fun h => ?_)
  · have hlt : k < l.length := by simpa using h
    conv => whnf
    refine ⟨_, idx_map l XPend.ps k hlt 13, ?_⟩
    conv => whnf
    refine call_i (hp l[k] (List.getElem_mem hlt)) ?_
    conv => whnf
    refine br_i (fun h => ?_) (fun h => ?_) <;> conv => whnf
    · refine leaf_i rfl rfl ?_
      rw [firstBad_at hs hlt (by simpa using h)]
      rfl
    · exact ⟨k + 1, ⟨⟨hlt, all_succ hs hlt (by simpa using h)⟩, by omega⟩, le_mk [] rfl ⟨⟨rfl, rfl⟩, ⟨rfl, rfl⟩, ⟨rfl, rfl⟩, ⟨ctr (by omega), rfl⟩, trivial⟩ trivial rfl⟩
  · have hk : l.length ≤ k := by simpa using h
    conv => whnf
    refine leaf_i rfl rfl ?_
    rw [firstBad_none (all_end hs hk)]
    rfl
theorem m_indexA (l : List XResp) (f : FuncId) (p : XResp → Bool) (hp : ∀ x ∈ l, PureC Try.prog f [x.v] [boolv (!p x)]) : PureC Try.prog 41 [XResp.sV l, .one (.fn f)] [i64v (firstBad p l)] := by
  refine pureC_fit ⟨_, Try.func41, by kernel_rfl, rfl⟩ fun hf => ?_
  have hl : l.length ≤ 9223372036854775807 := fits_len (hf (XResp.sV l) (by simp))
  refine pureC_of (Γ := lookT tbl) (il := ilist) tg dr Try.func41 rfl (by kernel_rfl) rfl (Nat.le_of_ble_eq_true rfl) ?_
  conv => whnf
  refine loop_i (fun k : Nat => ⟨envL [(0, .c (.pv (XResp.sP l))), (1, .c (.pv (.fn f))), (7, .c (.pv (.int .i64 l.length))), (8, .c (.pv (.int .i64 k)))], resL [], 0, 19⟩) (fun k => k ≤ l.length ∧ (l.take k).all p = true) (fun k => l.length - k) 0 ⟨Nat.zero_le _, rfl⟩ (le_mk [] rfl ⟨⟨rfl, rfl⟩, ⟨rfl, rfl⟩, ⟨i64_eq (by rw [List.length_map]), rfl⟩, ⟨rfl, rfl⟩, trivial⟩ trivial rfl) ?_
  intro k ⟨hk, hs⟩
  conv => whnf
  refine br_i (fun h => ?_) (fun h => ?_)
  · have hlt : k < l.length := by simpa using h
    conv => whnf
    refine ⟨_, idx_map l XResp.ps k hlt 6, ?_⟩
    conv => whnf
    refine call_i (hp l[k] (List.getElem_mem hlt)) ?_
    conv => whnf
    refine br_i (fun h => ?_) (fun h => ?_) <;> conv => whnf
    · refine leaf_i rfl rfl ?_
      rw [firstBad_at hs hlt (by simpa using h)]
      rfl
    · exact ⟨k + 1, ⟨⟨hlt, all_succ hs hlt (by simpa using h)⟩, by omega⟩, le_mk [] rfl ⟨⟨rfl, rfl⟩, ⟨rfl, rfl⟩, ⟨rfl, rfl⟩, ⟨ctr (by omega), rfl⟩, trivial⟩ trivial rfl⟩
  · have hk : l.length ≤ k := by simpa using h
    conv => whnf
    refine leaf_i rfl rfl ?_
    rw [firstBad_none (all_end hs hk)]
    rfl
theorem m_fill1 (x : XPend) (id : Int) : PureC Try.prog 72 [x.v, .ptr [.int .i64 id]] [boolv (!(!decide (x.Id = id)))] := by
  refine pureC_of (Γ := lookT tbl) (il := ilist) tg dr Try.func72 rfl (by kernel_rfl) rfl (Nat.le_of_ble_eq_true rfl) ?_
  (repeat' ((conv => whnf); first | refine br_i (fun _ => ?_) (fun _ => ?_) | (refine cur_leaf rfl rfl rfl ?_ ?_; · first | assumption | omega | exact hw ‹_›) | refine leaf_i rfl rfl ?_ | refine And.intro rfl ?_ | (refine And.intro ?_ ?_; · decide)))
  all_goals (rw [Bool.not_not]; rfl)
theorem m_Joined1 (x : XResp) : PureC Try.prog 42 [x.v] [boolv (!decide (x.Fault = 0))] := by
  refine pureC_of (Γ := lookT tbl) (il := ilist) tg dr Try.func42 rfl (by kernel_rfl) rfl (Nat.le_of_ble_eq_true rfl) ?_
  (repeat' ((conv => whnf); first | refine br_i (fun _ => ?_) (fun _ => ?_) | (refine cur_leaf rfl rfl rfl ?_ ?_; · first | assumption | omega | exact hw ‹_›) | refine leaf_i rfl rfl ?_ | refine And.intro rfl ?_ | (refine And.intro ?_ ?_; · decide)))
  all_goals (show [VV.one (PV.bool (x.Fault != 0))] = _; rw [show (x.Fault != 0) = !decide (x.Fault = 0) by by_cases h : x.Fault = 0 <;> simp [h]]; rfl)
theorem m_Joined (q : XReq) (l : List XPart) (told : List XResp) (h1 : 0 < l.length) (h2 : told.length = l.length) (h3 : l.length ≤ 8) (h4 : ∀ i : Nat, ∀ h : i < l.length, suits l[i].Req (told[i]'(by omega)) = true) (h5 : (told[0]'(by omega)).Fault ≠ 0) : PureC Try.prog 14 [q.v, XPart.sV l, XResp.sV told] [(faultOf q (told[0]'(by omega)).Fault).v] := by
  refine pureC_of (Γ := lookT tbl) (il := ilist) tg dr Try.func14 rfl (by kernel_rfl) rfl (Nat.le_of_ble_eq_true rfl) ?_
  have hI := m_indexA told 42 (fun a => decide (a.Fault = 0)) (fun x _ => m_Joined1 x)
  have h0 : firstBad (fun a : XResp => decide (a.Fault = 0)) told = ((0 : Nat) : Int) := firstBad_at (k := 0) rfl (by omega) (by simpa using h5)
  rw [h0] at hI
  have iz := idx_map told XResp.ps 0 (by omega) 6
  have hF := m_FaultOf q (told[0]'(by omega)).Fault
  conv => whnf
  refine br_i (fun h => by exfalso; simp at h; simp [h] at h1) (fun h => ?_)
  conv => whnf
  refine br_i (fun h => by exfalso; simp at h; omega) (fun h => ?_)
  conv => whnf
  refine loop_i (fun k : Nat => ⟨envL [(1, .c (.pv (XPart.sP l))), (2, .c (.pv (XResp.sP told))), (3, .c (.ptr 0 0)), (6, .c (.ptr 1 0)), (27, .c (.pv (XResp.sP told))), (28, .c (.pv (.int .i64 l.length))), (29, .c (.pv (.int .i64 k)))], resL [(0, .box (q.ps.map .pv)), (1, .box [.pv (.int .i64 0), .pv (.int .i64 0), .pv (.int .i64 0), .pv (.int .i64 0), .nil 1, .nil 1])], 2, 113⟩)
    (fun k => k ≤ l.length) (fun k => l.length - k) 0 (Nat.zero_le _) (le_mk [(0, _), (1, _)] rfl ⟨⟨rfl, rfl⟩, ⟨rfl, rfl⟩, ⟨rfl, rfl⟩, ⟨rfl, rfl⟩, ⟨rfl, rfl⟩, ⟨i64_eq (by rw [List.length_map, h2]), rfl⟩, ⟨rfl, rfl⟩, trivial⟩ ⟨⟨rfl, rfl⟩, ⟨rfl, rfl⟩, trivial⟩ rfl) ?_
  intro k hk
  conv => whnf
  refine br_i (fun h => ?_) (fun h => ?_)
  · have hlt : k < l.length := by simpa using h
    have ix := idx_map l XPart.ps k hlt 8
    have it := idx_map told XResp.ps k (by omega) 6
    have hS := m_Suits l[k].Req (told[k]'(by omega))
    rw [h4 k hlt] at hS
    (repeat' ((conv => whnf); first | refine br_i (fun _ => ?_) (fun _ => ?_) | (refine cur_leaf rfl rfl rfl ?_ ?_; · first | assumption | omega | exact hw ‹_›) | refine leaf_i rfl rfl ?_ | refine And.intro rfl ?_ | refine call_i (hS) ?_ | (refine Or.inl ?_; (conv => whnf); refine call_i (hS) ?_) | (refine ⟨_, it, ?_⟩) | (refine ⟨_, ix, ?_⟩) | (refine And.intro ?_ ?_; · decide)))
    all_goals (conv => whnf)
    all_goals exact ⟨k + 1, ⟨by omega, by omega⟩, le_mk [(0, _), (1, _)] rfl ⟨⟨rfl, rfl⟩, ⟨rfl, rfl⟩, ⟨rfl, rfl⟩, ⟨rfl, rfl⟩, ⟨rfl, rfl⟩, ⟨rfl, rfl⟩, ⟨ctr (by omega), rfl⟩, trivial⟩ ⟨⟨rfl, rfl⟩, ⟨rfl, rfl⟩, trivial⟩ rfl⟩
  · (repeat' ((conv => whnf); first | refine br_i (fun _ => ?_) (fun _ => ?_) | (refine cur_leaf rfl rfl rfl ?_ ?_; · first | assumption | omega | exact hw ‹_›) | refine leaf_i rfl rfl ?_ | refine And.intro rfl ?_ | refine call_i (hI) ?_ | (refine Or.inl ?_; (conv => whnf); refine call_i (hI) ?_) | refine call_i (hF) ?_ | (refine Or.inl ?_; (conv => whnf); refine call_i (hF) ?_) | (refine ⟨_, iz, ?_⟩) | (refine And.intro ?_ ?_; · decide)))
    all_goals rfl
theorem m_in_len (p : XPend) (part : Int) (h : p.Parts.length ≤ 8) : PureC Try.prog 64 [i64v part, i64v 0, i64v (IntKind.i64.wrap (((p.Parts.map XPart.ps).length : Int) - 1))] [boolv (inB part 0 (p.Parts.length - 1))] := by
  rw [List.length_map, wrap_ok (by omega) (by omega)]
  exact m_in _ _ _
theorem m_find (t : XTable) (id : Int) : PureC Try.prog 71 [XPend.sV t.List_, .clo 72 [[.int .i64 id]]] [i64v (findI t id)] := m_indexP t.List_ 72 [[.int .i64 id]] (fun p : XPend => !decide (p.Id = id)) (fun x _ => m_fill1 x id)
/-- The matter is not there, or the part is told. -/
theorem m_Fill0 (t : XTable) (id part : Int) (a : XResp) (ht : t.tot ≤ 1048576) (h : findI t id = -1 ∨ ∃ k j : Nat, ∃ hk : k < t.List_.length, findI t id = k ∧ part = j ∧ t.List_[k].Parts.length ≤ 8 ∧ j < t.List_[k].Parts.length ∧ t.List_[k].Has[j]? = some true) : PureC Try.prog 36 [t.v, i64v id, i64v part, a.v] [t.v, XReply.sV []] := by
  have hF := m_find t id
  refine pureC_of (Γ := lookT tbl) (il := ilist) tg dr Try.func36 rfl (by kernel_rfl) rfl (Nat.le_of_ble_eq_true rfl) ?_
  conv => whnf
  refine inl_nd (Γ := lookT tbl) [26] ?_
  conv => whnf
  refine nd_i (ndC_pure (m_cloneTable t ht)) ?_
  rintro _ rfl
  rcases h with h | ⟨k, j, hk, h1, rfl, h3, h4, h5⟩
  · rw [h] at hF
    (repeat' ((conv => whnf); first | refine br_i (fun _ => ?_) (fun _ => ?_) | (refine cur_leaf rfl rfl rfl ?_ ?_; · first | assumption | omega | exact hw ‹_›) | refine leaf_i rfl rfl ?_ | refine And.intro rfl ?_ | refine call_i (hF) ?_ | (refine Or.inl ?_; (conv => whnf); refine call_i (hF) ?_) | (refine And.intro ?_ ?_; · decide)))
    all_goals rfl
  · rw [h1] at hF
    have ix := idx_map t.List_ XPend.ps k hk 13
    generalize t.List_[k] = p at *
    have hI := m_in_len p j h3
    rw [show inB j 0 (p.Parts.length - 1) = true by simp [inB]; omega] at hI
    have hj : j < p.Has.length := by
      rcases Nat.lt_or_ge j p.Has.length with h | h
      · exact h
      · rw [List.getElem?_eq_none h] at h5; cases h5
    have i1 := idx_map p.Has boolEl j hj 1
    rw [show p.Has[j] = true by rw [List.getElem?_eq_getElem hj] at h5; exact Option.some.inj h5] at i1
    (repeat' ((conv => whnf); first | refine br_i (fun _ => ?_) (fun _ => ?_) | (refine cur_leaf rfl rfl rfl ?_ ?_; · first | assumption | omega | exact hw ‹_›) | refine leaf_i rfl rfl ?_ | refine And.intro rfl ?_ | refine call_i (hF) ?_ | (refine Or.inl ?_; (conv => whnf); refine call_i (hF) ?_) | refine call_i (hI) ?_ | (refine Or.inl ?_; (conv => whnf); refine call_i (hI) ?_) | (refine ⟨_, ix, ?_⟩) | (refine ⟨_, i1, ?_⟩) | (refine And.intro ?_ ?_; · decide)))
    all_goals rfl
set_option maxHeartbeats 4000000 in
theorem m_FillN (t : XTable) (id : Int) (j k : Nat) (a : XResp) (h : tableB t = true) (hk : k < t.List_.length) (h1 : findI t id = k) (h2 : canP t.List_[k] j a = true) (h3 : (fillP t.List_[k] j a).Has.all (fun b => b) = false) :
    PureC Try.prog 36 [t.v, i64v id, i64v j, a.v] [XTable.v ⟨t.Next, t.List_.set k (fillP t.List_[k] j a)⟩, XReply.sV []] := by
  have ht := tableTot h
  have hF := m_find t id
  rw [h1] at hF
  obtain ⟨l1, l2, l3⟩ := pend_lens h hk
  have ix := idx_map t.List_ XPend.ps k hk 13
  have hi := hi_get hk
  have hI := m_in_len t.List_[k] j l3
  unfold canP at h2
  simp only [Bool.and_eq_true] at h2
  obtain ⟨hb, hh, hs⟩ := h2
  rw [hb] at hI
  simp only [inB, Bool.and_eq_true, decide_eq_true_eq] at hb
  have hj : j < t.List_[k].Parts.length := by omega
  have hlen : k < (t.List_.map XPend.ps).length := by rw [List.length_map]; exact hk
  generalize hp : t.List_[k] = p at *
  have i1 := idx_map p.Has boolEl j (by omega) 1
  have i2 := idx_map p.Parts XPart.ps j hj 8
  have hS := m_Suits p.Parts[j].Req a
  have e1 : p.Has.getD ((j : Int)).toNat false = p.Has[j]'(by omega) := by simp [List.getD, List.getElem?_eq_getElem (show j < p.Has.length by omega)]
  have e2 : p.Parts.getD ((j : Int)).toNat XPart.zero = p.Parts[j] := by simp [List.getD, List.getElem?_eq_getElem hj]
  rw [e1] at hh
  rw [e2] at hs
  rw [hs] at hS
  have hb0 : p.Has[j]'(by omega) = false := by simpa using hh
  rw [hb0] at i1
  clear e1 e2 hh
  have hat := suitsTot hs
  generalize p.Parts[j] = x at *
  refine pureC_ofL (Γ := lookT tbl) (il := ilist) tg dr Try.func36 rfl (by kernel_rfl) rfl (Nat.le_of_ble_eq_true rfl) ?_
  conv => whnf
  refine inl_post ?_
  refine inl_ndR (Γ := lookT tbl) [26] ?_
  conv => whnf
  refine nd_i (ndC_pure (m_cloneTable t ht)) ?_
  rintro _ rfl
  conv => whnf
  refine ⟨⟨envL [(2, .c (.pv (.int .i64 j))), (4, .c (.ptr 0 0)), (5, .c (.ptr 1 0)), (7, .c (.ptr 2 0)), (8, .c (.ptr 3 0)), (9, .c (.nil 16)), (15, .agg [.pv (.int .i64 t.Next), .row 5])], resL [(0, .box (t.ps.map .pv)), (1, .box [.pv (.int .i64 id)]), (2, .box (a.ps.map .pv)), (3, .box [.pv (.int .i64 0), .nil 13]), (5, .hol 13 k (t.List_.map XPend.ps) (holC p 0)), (7, .row true 1 (p.Req.Words.map intEl)), (8, .row true 1 (p.Req.Bits.map boolEl)), (10, .row true 8 (p.Parts.map XPart.ps)), (11, .row true 1 (p.Has.map boolEl)), (12, .row true 6 (p.Told.map XResp.ps))], 16, 130⟩, (le_rawHol 6145 k (ac := holC p 7168) (u := holU p 7168) rfl hi ⟨rfl, rfl⟩ rfl).trans (le_mk [(0, 0), (1, 1024), (2, 2048), (3, 3072), (5, 6145), (7, 7175), (8, 7176), (10, 7178), (11, 7179), (12, 7180)] rfl ⟨⟨rfl, rfl⟩, ⟨rfl, rfl⟩, ⟨rfl, rfl⟩, ⟨rfl, rfl⟩, ⟨rfl, rfl⟩, ⟨rfl, rfl⟩, ⟨rfl, rfl⟩, trivial⟩ ⟨⟨rfl, rfl⟩, ⟨rfl, rfl⟩, ⟨rfl, rfl⟩, ⟨rfl, rfl⟩, ⟨rfl, rfl⟩, ⟨rfl, rfl⟩, ⟨rfl, rfl⟩, ⟨rfl, rfl⟩, ⟨rfl, rfl⟩, ⟨rfl, rfl⟩, trivial⟩ rfl), ?_⟩
  (repeat' ((conv => whnf); first | refine br_i (fun _ => ?_) (fun _ => ?_) | (refine cur_leaf rfl rfl rfl ?_ ?_; · first | assumption | omega | exact hw ‹_›) | refine leaf_i rfl rfl ?_ | refine And.intro rfl ?_ | refine call_i (hF) ?_ | (refine Or.inl ?_; (conv => whnf); refine call_i (hF) ?_) | refine call_i (hI) ?_ | (refine Or.inl ?_; (conv => whnf); refine call_i (hI) ?_) | refine call_i (hS) ?_ | (refine Or.inl ?_; (conv => whnf); refine call_i (hS) ?_) | (refine ⟨_, ix, ?_⟩) | (refine ⟨_, i1, ?_⟩) | (refine ⟨_, i2, ?_⟩) | (refine And.intro ?_ ?_; · decide)))
  conv => whnf
  refine ⟨k, ⟨⟨rfl, hlen⟩, rfl⟩, ?_⟩
  conv => whnf
  refine And.intro ⟨rfl, rfl⟩ ?_
  (repeat' ((conv => whnf); first | refine br_i (fun _ => ?_) (fun _ => ?_) | (refine cur_leaf rfl rfl rfl ?_ ?_; · first | assumption | omega | exact hw ‹_›) | refine leaf_i rfl rfl ?_ | refine And.intro rfl ?_ | refine call_i (m_cloneResp a (by omega)) ?_ | (refine Or.inl ?_; (conv => whnf); refine call_i (m_cloneResp a (by omega)) ?_) | (refine And.intro ⟨rfl, rfl⟩ ?_) | (refine And.intro ?_ ?_; · decide)))
  conv => whnf
  refine ⟨j, ⟨⟨rfl, by rw [List.length_map, l1]; exact hj⟩, rfl⟩, ?_⟩
  conv => whnf
  refine ⟨(p.Has.set j true).map boolEl, ⟨rfl, by rw [List.length_map, l1]; exact hj, by decide, set_map PV.bool p.Has j true⟩, ?_⟩
  conv => whnf
  refine ⟨j, ⟨⟨rfl, by rw [List.length_map, l2]; exact hj⟩, rfl⟩, ?_⟩
  conv => whnf
  refine ⟨(p.Told.set j a).map XResp.ps, ⟨⟨rfl, by rw [List.length_map, l2]; exact hj, Nat.le_refl _⟩, told_set p.Told j a⟩, ?_⟩
  conv => whnf
  refine And.intro rfl ?_
  have hC := m_containsB (p.Has.set j true) false
  have hH : (fillP p j a).Has = p.Has.set j true := rfl
  rw [hH] at h3
  rw [show ((p.Has.set j true).all fun x => !(false == x)) = (p.Has.set j true).all (fun b => b) by simp, h3] at hC
  (repeat' ((conv => whnf); first | refine br_i (fun _ => ?_) (fun _ => ?_) | (refine cur_leaf rfl rfl rfl ?_ ?_; · first | assumption | omega | exact hw ‹_›) | refine leaf_i rfl rfl ?_ | refine And.intro rfl ?_ | refine call_i (hC) ?_ | (refine Or.inl ?_; (conv => whnf); refine call_i (hC) ?_) | (refine And.intro ⟨rfl, rfl⟩ ?_) | (refine And.intro ?_ ?_; · decide)))
  conv => whnf
  refine ⟨_, le_hol 5 [(7, 1, p.Req.Words.map intEl), (8, 1, p.Req.Bits.map boolEl), (10, 8, p.Parts.map XPart.ps), (11, 1, (p.Has.set j true).map boolEl), (12, 6, (p.Told.set j a).map XResp.ps)] (cs := holC p 0) (el := XPend.ps (fillP p j a)) rfl ⟨⟨rfl, rfl⟩, rfl⟩ ⟨rfl, rfl, rfl, rfl, rfl, trivial⟩ rfl, ?_⟩
  refine leaf_i rfl rfl ?_
  show [VV.agg [PV.int .i64 t.Next, .sl 13 ((t.List_.map XPend.ps).set k (XPend.ps (fillP p j a)))], .one (.sl 16 [])] = _
  rw [← List.map_set]
  rfl
set_option maxHeartbeats 4000000 in
theorem m_FillD (t : XTable) (id : Int) (j k : Nat) (a R : XResp) (h : tableB t = true) (hk : k < t.List_.length) (hk1 : t.List_.length = k + 1) (h1 : findI t id = k) (h2 : canP t.List_[k] j a = true) (h3 : (fillP t.List_[k] j a).Has.all (fun b => b) = true) (hJ : PureC Try.prog 14 [t.List_[k].Req.v, XPart.sV t.List_[k].Parts, XResp.sV (fillP t.List_[k] j a).Told] [R.v]) :
    PureC Try.prog 36 [t.v, i64v id, i64v j, a.v] [XTable.v ⟨t.Next, t.List_.take k⟩, XReply.sV [⟨t.List_[k].Source, t.List_[k].Tag, t.List_[k].Req, t.List_[k].Parts, (fillP t.List_[k] j a).Told, R⟩]] := by
  have ht := tableTot h
  have hF := m_find t id
  rw [h1] at hF
  obtain ⟨l1, l2, l3⟩ := pend_lens h hk
  have ix := idx_map t.List_ XPend.ps k hk 13
  have hi := hi_get hk
  have hI := m_in_len t.List_[k] j l3
  unfold canP at h2
  simp only [Bool.and_eq_true] at h2
  obtain ⟨hb, hh, hs⟩ := h2
  rw [hb] at hI
  simp only [inB, Bool.and_eq_true, decide_eq_true_eq] at hb
  have hj : j < t.List_[k].Parts.length := by omega
  have hlen : k < (t.List_.map XPend.ps).length := by rw [List.length_map]; exact hk
  generalize hp : t.List_[k] = p at *
  have i1 := idx_map p.Has boolEl j (by omega) 1
  have i2 := idx_map p.Parts XPart.ps j hj 8
  have hS := m_Suits p.Parts[j].Req a
  have e1 : p.Has.getD ((j : Int)).toNat false = p.Has[j]'(by omega) := by simp [List.getD, List.getElem?_eq_getElem (show j < p.Has.length by omega)]
  have e2 : p.Parts.getD ((j : Int)).toNat XPart.zero = p.Parts[j] := by simp [List.getD, List.getElem?_eq_getElem hj]
  rw [e1] at hh
  rw [e2] at hs
  rw [hs] at hS
  have hb0 : p.Has[j]'(by omega) = false := by simpa using hh
  rw [hb0] at i1
  clear e1 e2 hh
  have hat := suitsTot hs
  generalize p.Parts[j] = x at *
  refine pureC_ofL (Γ := lookT tbl) (il := ilist) tg dr Try.func36 rfl (by kernel_rfl) rfl (Nat.le_of_ble_eq_true rfl) ?_
  conv => whnf
  refine inl_post ?_
  refine inl_ndR (Γ := lookT tbl) [26] ?_
  conv => whnf
  refine nd_i (ndC_pure (m_cloneTable t ht)) ?_
  rintro _ rfl
  conv => whnf
  refine ⟨⟨envL [(2, .c (.pv (.int .i64 j))), (4, .c (.ptr 0 0)), (5, .c (.ptr 1 0)), (7, .c (.ptr 2 0)), (8, .c (.ptr 3 0)), (9, .c (.nil 16)), (15, .agg [.pv (.int .i64 t.Next), .row 5])], resL [(0, .box (t.ps.map .pv)), (1, .box [.pv (.int .i64 id)]), (2, .box (a.ps.map .pv)), (3, .box [.pv (.int .i64 0), .nil 13]), (5, .hol 13 k (t.List_.map XPend.ps) (holC p 0)), (7, .row true 1 (p.Req.Words.map intEl)), (8, .row true 1 (p.Req.Bits.map boolEl)), (10, .row true 8 (p.Parts.map XPart.ps)), (11, .row true 1 (p.Has.map boolEl)), (12, .row true 6 (p.Told.map XResp.ps))], 16, 130⟩, (le_rawHol 6145 k (ac := holC p 7168) (u := holU p 7168) rfl hi ⟨rfl, rfl⟩ rfl).trans (le_mk [(0, 0), (1, 1024), (2, 2048), (3, 3072), (5, 6145), (7, 7175), (8, 7176), (10, 7178), (11, 7179), (12, 7180)] rfl ⟨⟨rfl, rfl⟩, ⟨rfl, rfl⟩, ⟨rfl, rfl⟩, ⟨rfl, rfl⟩, ⟨rfl, rfl⟩, ⟨rfl, rfl⟩, ⟨rfl, rfl⟩, trivial⟩ ⟨⟨rfl, rfl⟩, ⟨rfl, rfl⟩, ⟨rfl, rfl⟩, ⟨rfl, rfl⟩, ⟨rfl, rfl⟩, ⟨rfl, rfl⟩, ⟨rfl, rfl⟩, ⟨rfl, rfl⟩, ⟨rfl, rfl⟩, ⟨rfl, rfl⟩, trivial⟩ rfl), ?_⟩
  (repeat' ((conv => whnf); first | refine br_i (fun _ => ?_) (fun _ => ?_) | (refine cur_leaf rfl rfl rfl ?_ ?_; · first | assumption | omega | exact hw ‹_›) | refine leaf_i rfl rfl ?_ | refine And.intro rfl ?_ | refine call_i (hF) ?_ | (refine Or.inl ?_; (conv => whnf); refine call_i (hF) ?_) | refine call_i (hI) ?_ | (refine Or.inl ?_; (conv => whnf); refine call_i (hI) ?_) | refine call_i (hS) ?_ | (refine Or.inl ?_; (conv => whnf); refine call_i (hS) ?_) | (refine ⟨_, ix, ?_⟩) | (refine ⟨_, i1, ?_⟩) | (refine ⟨_, i2, ?_⟩) | (refine And.intro ?_ ?_; · decide)))
  conv => whnf
  refine ⟨k, ⟨⟨rfl, hlen⟩, rfl⟩, ?_⟩
  conv => whnf
  refine And.intro ⟨rfl, rfl⟩ ?_
  (repeat' ((conv => whnf); first | refine br_i (fun _ => ?_) (fun _ => ?_) | (refine cur_leaf rfl rfl rfl ?_ ?_; · first | assumption | omega | exact hw ‹_›) | refine leaf_i rfl rfl ?_ | refine And.intro rfl ?_ | refine call_i (m_cloneResp a (by omega)) ?_ | (refine Or.inl ?_; (conv => whnf); refine call_i (m_cloneResp a (by omega)) ?_) | (refine And.intro ⟨rfl, rfl⟩ ?_) | (refine And.intro ?_ ?_; · decide)))
  conv => whnf
  refine ⟨j, ⟨⟨rfl, by rw [List.length_map, l1]; exact hj⟩, rfl⟩, ?_⟩
  conv => whnf
  refine ⟨(p.Has.set j true).map boolEl, ⟨rfl, by rw [List.length_map, l1]; exact hj, by decide, set_map PV.bool p.Has j true⟩, ?_⟩
  conv => whnf
  refine ⟨j, ⟨⟨rfl, by rw [List.length_map, l2]; exact hj⟩, rfl⟩, ?_⟩
  conv => whnf
  refine ⟨(p.Told.set j a).map XResp.ps, ⟨⟨rfl, by rw [List.length_map, l2]; exact hj, Nat.le_refl _⟩, told_set p.Told j a⟩, ?_⟩
  conv => whnf
  refine And.intro rfl ?_
  have hC := m_containsB (p.Has.set j true) false
  have hH : (fillP p j a).Has = p.Has.set j true := rfl
  rw [hH] at h3
  rw [show ((p.Has.set j true).all fun x => !(false == x)) = (p.Has.set j true).all (fun b => b) by simp, h3] at hC
  have hT : (fillP p j a).Told = p.Told.set j a := rfl
  rw [hT] at hJ
  (repeat' ((conv => whnf); first | refine br_i (fun _ => ?_) (fun _ => ?_) | (refine cur_leaf rfl rfl rfl ?_ ?_; · first | assumption | omega | exact hw ‹_›) | refine leaf_i rfl rfl ?_ | refine And.intro rfl ?_ | refine call_i (hC) ?_ | (refine Or.inl ?_; (conv => whnf); refine call_i (hC) ?_) | (refine And.intro ⟨rfl, rfl⟩ ?_) | (refine And.intro ?_ ?_; · decide)))
  refine call_i hJ ?_
  conv => whnf
  refine And.intro rfl ?_
  conv => whnf
  have ht2 := table_b h
  refine inl_del (tk := 5) (k := k) (cs := holC p 0) delC rfl rfl rfl (by show AV.c (AC.pv (PV.int .i64 (IntKind.i64.wrap ((k : Int) + 1)))) = _; rw [wrap_ok (by omega) (by omega)]) (by rw [List.length_map]; exact hk1) ?_
  conv => whnf
  refine And.intro rfl ?_
  conv => whnf
  refine ⟨_, le_refl, ?_⟩
  refine leaf_i rfl rfl ?_
  rw [show (t.List_.map XPend.ps).take k = (t.List_.take k).map XPend.ps from List.map_take.symm]
  rfl
theorem m_TF {t : XTable} {id part : Int} {a : XResp} {rs : List VV} (h : tableB t = true) (hf : PureC Try.prog 36 [t.v, i64v id, i64v part, a.v] rs) (u : XTable) (l : List XReply) (hr : rs = [u.v, XReply.sV l]) : PureC Try.prog 12 [t.v, i64v id, i64v part, a.v] [u.v, XReply.sV l] := by
  subst hr
  have hT := m_TableOk t (by have := table_b h; omega)
  rw [h] at hT
  refine pureC_of (Γ := lookT tbl) (il := ilist) tg dr Try.func12 rfl (by kernel_rfl) rfl (Nat.le_of_ble_eq_true rfl) ?_
  (repeat' ((conv => whnf); first | refine br_i (fun _ => ?_) (fun _ => ?_) | (refine cur_leaf rfl rfl rfl ?_ ?_; · first | assumption | omega | exact hw ‹_›) | refine leaf_i rfl rfl ?_ | refine And.intro rfl ?_ | refine call_i (hT) ?_ | (refine Or.inl ?_; (conv => whnf); refine call_i (hT) ?_) | refine call_i (hf) ?_ | (refine Or.inl ?_; (conv => whnf); refine call_i (hf) ?_) | (refine And.intro ?_ ?_; · decide)))
  all_goals rfl
/-- What spec.TableFill makes of a table. -/
def tableFill (t : XTable) (id part : Int) (a : XResp) : XTable × List XReply :=
  if tableB t then
    if findI t id < 0 then (t, []) else
    if canP (t.List_.getD (findI t id).toNat XPend.zero) part a then
      if (fillP (t.List_.getD (findI t id).toNat XPend.zero) part.toNat a).Has.all (fun b => b) then (⟨t.Next, rmv (findI t id).toNat t.List_⟩, [replyS (fillP (t.List_.getD (findI t id).toNat XPend.zero) part.toNat a)])
      else (⟨t.Next, t.List_.set (findI t id).toNat (fillP (t.List_.getD (findI t id).toNat XPend.zero) part.toNat a)⟩, [])
    else (t, [])
  else (t, [])
theorem s_TableFill (t : XTable) (id part : Int) (a : XResp) (ht : t.tot ≤ 1048576) : PureC Try.prog 47 [t.v, i64v id, i64v part, a.v] [(tableFill t id part a).1.v, XReply.sV (tableFill t id part a).2] := by
  unfold tableFill
  cases h : tableB t with
  | false => exact s_Fill0 t id part a ht (.inl h)
  | true =>
    rw [if_pos rfl]
    rcases find_cases t id with h1 | ⟨k, hk, h1⟩
    · rw [if_pos (by omega)]
      exact s_Fill0 t id part a ht (.inr ⟨h, .inl h1⟩)
    · rw [h1, if_neg (by omega), show ((k : Int)).toNat = k from rfl, show t.List_.getD k XPend.zero = t.List_[k] by simp [List.getD, List.getElem?_eq_getElem hk]]
      cases h2 : canP t.List_[k] part a with
      | false => exact s_Fill0 t id part a ht (.inr ⟨h, .inr ⟨k, hk, h1, h2⟩⟩)
      | true =>
        have hb := h2
        simp only [canP, inB, Bool.and_eq_true, decide_eq_true_eq] at hb
        obtain ⟨j, rfl⟩ : ∃ j : Nat, part = j := ⟨part.toNat, by omega⟩
        rw [if_pos rfl, show ((j : Int)).toNat = j from rfl]
        cases h3 : (fillP t.List_[k] j a).Has.all (fun b => b) with
        | false => exact s_FillN t id j k a h hk h1 h2 h3
        | true => exact s_FillC t id j k a h hk h1 h2 h3

end Go.Proofs.Ytnpcgheojijpjaa
