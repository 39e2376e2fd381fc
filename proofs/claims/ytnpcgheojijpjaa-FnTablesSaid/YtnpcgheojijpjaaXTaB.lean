/- Copies: of rows, questions, calls, lines. -/
import Derived.Test.YtnpcgheojijpjaaXTaA
namespace Go.Proofs.Ytnpcgheojijpjaa
open Go Go.Vi
set_option linter.unusedVariables false
set_option linter.unusedSimpArgs false
set_option maxRecDepth 100000
theorem m_CloneI (l : List Int) (hl : l.length ≤ 1048576) : PureC Try.prog 58 [intsV l] [intsV l] := by
  refine pureC_of (Γ := lookT tbl) (il := ilist) tg dr Try.func58 rfl (by kernel_rfl) rfl (Nat.le_of_ble_eq_true rfl) ?_
  conv => whnf
  refine ⟨⟨_, _, rfl, rfl⟩, fun b hb => ?_⟩
  conv => whnf
  refine br_i (fun h => ?_) (fun h => ?_) <;> conv => whnf
  · have h1 := hb (by simpa using h)
    simp at h1
    subst h1
    exact leaf_i rfl rfl rfl
  · refine ⟨⟨rfl, flat_int l⟩, ?_⟩
    conv => whnf
    refine ⟨l.map intEl, ⟨by show (0 + (l.map intEl).length) * 8 ≤ 140737488355328; rw [List.length_map]; omega, rfl⟩, ?_⟩
    conv => whnf
    exact leaf_i rfl rfl rfl
theorem m_CloneB (l : List Bool) (hl : l.length ≤ 1048576) : PureC Try.prog 56 [boolsV l] [boolsV l] := by
  refine pureC_of (Γ := lookT tbl) (il := ilist) tg dr Try.func56 rfl (by kernel_rfl) rfl (Nat.le_of_ble_eq_true rfl) ?_
  conv => whnf
  refine ⟨⟨_, _, rfl, rfl⟩, fun b hb => ?_⟩
  conv => whnf
  refine br_i (fun h => ?_) (fun h => ?_) <;> conv => whnf
  · have h1 := hb (by simpa using h)
    simp at h1
    subst h1
    exact leaf_i rfl rfl rfl
  · refine ⟨⟨rfl, flat_bool l⟩, ?_⟩
    conv => whnf
    refine ⟨l.map boolEl, ⟨by show (0 + (l.map boolEl).length) * 1 ≤ 140737488355328; rw [List.length_map]; omega, rfl⟩, ?_⟩
    conv => whnf
    exact leaf_i rfl rfl rfl
theorem m_cloneReq (x : XReq) (h : x.tot ≤ 1048576) : PureC Try.prog 25 [x.v] [x.v] := by
  refine pureC_of (Γ := lookT tbl) (il := ilist) tg dr Try.func25 rfl (by kernel_rfl) rfl (Nat.le_of_ble_eq_true rfl) ?_
  unfold XReq.tot at h
  (repeat' ((conv => whnf); first | refine br_i (fun _ => ?_) (fun _ => ?_) | (refine cur_leaf rfl rfl rfl ?_ ?_; · first | assumption | omega | exact hw ‹_›) | refine leaf_i rfl rfl ?_ | refine And.intro rfl ?_ | refine call_i (m_CloneI x.Words (by omega)) ?_ | (refine Or.inl ?_; (conv => whnf); refine call_i (m_CloneI x.Words (by omega)) ?_) | refine call_i (m_CloneB x.Bits (by omega)) ?_ | (refine Or.inl ?_; (conv => whnf); refine call_i (m_CloneB x.Bits (by omega)) ?_) | (refine And.intro ?_ ?_; · decide)))
  all_goals rfl
theorem m_cloneResp (x : XResp) (h : x.tot ≤ 1048576) : PureC Try.prog 73 [x.v] [x.v] := by
  refine pureC_of (Γ := lookT tbl) (il := ilist) tg dr Try.func73 rfl (by kernel_rfl) rfl (Nat.le_of_ble_eq_true rfl) ?_
  unfold XResp.tot at h
  (repeat' ((conv => whnf); first | refine br_i (fun _ => ?_) (fun _ => ?_) | (refine cur_leaf rfl rfl rfl ?_ ?_; · first | assumption | omega | exact hw ‹_›) | refine leaf_i rfl rfl ?_ | refine And.intro rfl ?_ | refine call_i (m_CloneI x.Words (by omega)) ?_ | (refine Or.inl ?_; (conv => whnf); refine call_i (m_CloneI x.Words (by omega)) ?_) | refine call_i (m_CloneB x.Bits (by omega)) ?_ | (refine Or.inl ?_; (conv => whnf); refine call_i (m_CloneB x.Bits (by omega)) ?_) | (refine And.intro ?_ ?_; · decide)))
  all_goals rfl
theorem app_i (l : List Int) (hl : l.length ≤ 1048576) : (0 + (l.map intEl).length) * 8 ≤ 140737488355328 := by rw [List.length_map]; omega
theorem app_b (l : List Bool) (hl : l.length ≤ 1048576) : (0 + (l.map boolEl).length) * 1 ≤ 140737488355328 := by rw [List.length_map]; omega
theorem s_l10CopyReq (x : XReq) (h : x.tot ≤ 1048576) : PureC Try.prog 28 [x.v] [x.v] := by
  refine pureC_of (Γ := lookT tbl) (il := ilist) tg dr Try.func28 rfl (by kernel_rfl) rfl (Nat.le_of_ble_eq_true rfl) ?_
  unfold XReq.tot at h
  (repeat' ((conv => whnf); first | refine br_i (fun _ => ?_) (fun _ => ?_) | (refine cur_leaf rfl rfl rfl ?_ ?_; · first | assumption | omega | exact hw ‹_›) | refine leaf_i rfl rfl ?_ | refine And.intro rfl ?_ | (refine ⟨⟨rfl, flat_int _⟩, ?_⟩) | (refine ⟨⟨rfl, flat_bool _⟩, ?_⟩) | (refine ⟨x.Words.map intEl, ⟨app_i _ (by omega), rfl⟩, ?_⟩) | (refine ⟨x.Bits.map boolEl, ⟨app_b _ (by omega), rfl⟩, ?_⟩) | (refine And.intro ?_ ?_; · decide)))
  all_goals rfl
theorem s_l12CopyResp (x : XResp) (h : x.tot ≤ 1048576) : PureC Try.prog 83 [x.v] [x.v] := by
  refine pureC_of (Γ := lookT tbl) (il := ilist) tg dr Try.func83 rfl (by kernel_rfl) rfl (Nat.le_of_ble_eq_true rfl) ?_
  unfold XResp.tot at h
  (repeat' ((conv => whnf); first | refine br_i (fun _ => ?_) (fun _ => ?_) | (refine cur_leaf rfl rfl rfl ?_ ?_; · first | assumption | omega | exact hw ‹_›) | refine leaf_i rfl rfl ?_ | refine And.intro rfl ?_ | (refine ⟨⟨rfl, flat_int _⟩, ?_⟩) | (refine ⟨⟨rfl, flat_bool _⟩, ?_⟩) | (refine ⟨x.Words.map intEl, ⟨app_i _ (by omega), rfl⟩, ?_⟩) | (refine ⟨x.Bits.map boolEl, ⟨app_b _ (by omega), rfl⟩, ?_⟩) | (refine And.intro ?_ ?_; · decide)))
  all_goals rfl
theorem app_row {α : Type} (l : List α) (f : α → List PV) (k : Nat) (hlt : k < l.length) (b : Nat) (hb : l.length * b ≤ 140737488355328) : (((l.take k).map f).length + 1) * b ≤ 140737488355328 ∧ (l.take (k + 1)).map f = (l.take k).map f ++ [f l[k]] := by
  refine ⟨?_, by rw [List.take_succ_eq_append_getElem hlt, List.map_append]; rfl⟩
  rw [List.length_map, List.length_take]
  exact Nat.le_trans (Nat.mul_le_mul_right b (by omega)) hb
theorem req_tot (x : XReq) : x.tot = x.Words.length + x.Bits.length := rfl
theorem parts_tot (l : List XPart) : XPart.sTot l = l.length + sumF XPart.tot l := rfl
theorem resps_tot (l : List XResp) : XResp.sTot l = l.length + sumF XResp.tot l := rfl
theorem pends_tot (l : List XPend) : XPend.sTot l = l.length + sumF XPend.tot l := rfl
theorem part_tot (x : XPart) : x.tot = x.Req.tot := rfl
theorem pend_tot (x : XPend) : x.tot = x.Req.tot + XPart.sTot x.Parts + x.Has.length + XResp.sTot x.Told := rfl
theorem table_tot (x : XTable) : x.tot = XPend.sTot x.List_ := rfl
theorem s_l13CopyParts (l : List XPart) (h : XPart.sTot l ≤ 1048576) : PureC Try.prog 29 [XPart.sV l] [XPart.sV l] := by
  refine pureC_of (Γ := lookT tbl) (il := ilist) tg dr Try.func29 rfl (by kernel_rfl) rfl (Nat.le_of_ble_eq_true rfl) ?_
  have h1 := parts_tot l
  conv => whnf
  refine loop_i (fun k : Nat => ⟨envL [(0, .c (.pv (XPart.sP l))), (3, .c (.row 0)), (4, .c (.pv (.int .i64 k)))], resL [(0, .row true 8 ((l.take k).map XPart.ps))], 1, 33⟩)
    (fun k => k ≤ l.length) (fun k => l.length - k) 0 (Nat.zero_le _) (le_mk [(0, _)] rfl ⟨⟨rfl, rfl⟩, ⟨rfl, rfl⟩, ⟨rfl, rfl⟩, trivial⟩ ⟨⟨rfl, rfl⟩, trivial⟩ rfl) ?_
  intro k hk
  conv => whnf
  refine br_i (fun h => ?_) (fun h => ?_)
  · have hlt : k < l.length := by simpa using h
    have hg := sumF_get XPart.tot l k hlt
    have hp := part_tot l[k]
    have ix := idx_map l XPart.ps k hlt 8
    have ia := app_row l XPart.ps k hlt 96 (by omega)
    (repeat' ((conv => whnf); first | refine br_i (fun _ => ?_) (fun _ => ?_) | (refine cur_leaf rfl rfl rfl ?_ ?_; · first | assumption | omega | exact hw ‹_›) | refine leaf_i rfl rfl ?_ | refine And.intro rfl ?_ | refine call_i (s_l10CopyReq l[k].Req (by omega)) ?_ | (refine Or.inl ?_; (conv => whnf); refine call_i (s_l10CopyReq l[k].Req (by omega)) ?_) | (refine ⟨_, ix, ?_⟩) | (refine ⟨rfl, ?_⟩) | (refine ⟨_, ia, ?_⟩) | (refine And.intro ?_ ?_; · decide)))
    all_goals exact ⟨k + 1, ⟨hlt, by omega⟩, le_mk [(0, _)] rfl ⟨⟨rfl, rfl⟩, ⟨rfl, rfl⟩, ⟨ctr (by omega), rfl⟩, trivial⟩ ⟨⟨rfl, rfl⟩, trivial⟩ rfl⟩
  · have hk2 : l.length ≤ k := by simpa using h
    rw [List.take_of_length_le hk2]
    (repeat' ((conv => whnf); first | refine br_i (fun _ => ?_) (fun _ => ?_) | (refine cur_leaf rfl rfl rfl ?_ ?_; · first | assumption | omega | exact hw ‹_›) | refine leaf_i rfl rfl ?_ | refine And.intro rfl ?_ | (refine And.intro ?_ ?_; · decide)))
    all_goals rfl
theorem s_l13CopyTold (l : List XResp) (h : XResp.sTot l ≤ 1048576) : PureC Try.prog 81 [XResp.sV l] [XResp.sV l] := by
  refine pureC_of (Γ := lookT tbl) (il := ilist) tg dr Try.func81 rfl (by kernel_rfl) rfl (Nat.le_of_ble_eq_true rfl) ?_
  have h1 := resps_tot l
  conv => whnf
  refine loop_i (fun k : Nat => ⟨envL [(0, .c (.pv (XResp.sP l))), (3, .c (.row 0)), (4, .c (.pv (.int .i64 k)))], resL [(0, .row true 6 ((l.take k).map XResp.ps))], 1, 21⟩)
    (fun k => k ≤ l.length) (fun k => l.length - k) 0 (Nat.zero_le _) (le_mk [(0, _)] rfl ⟨⟨rfl, rfl⟩, ⟨rfl, rfl⟩, ⟨rfl, rfl⟩, trivial⟩ ⟨⟨rfl, rfl⟩, trivial⟩ rfl) ?_
  intro k hk
  conv => whnf
  refine br_i (fun h => ?_) (fun h => ?_)
  · have hlt : k < l.length := by simpa using h
    have hg := sumF_get XResp.tot l k hlt
    have ix := idx_map l XResp.ps k hlt 6
    have ia := app_row l XResp.ps k hlt 80 (by omega)
    (repeat' ((conv => whnf); first | refine br_i (fun _ => ?_) (fun _ => ?_) | (refine cur_leaf rfl rfl rfl ?_ ?_; · first | assumption | omega | exact hw ‹_›) | refine leaf_i rfl rfl ?_ | refine And.intro rfl ?_ | refine call_i (s_l12CopyResp l[k] (by omega)) ?_ | (refine Or.inl ?_; (conv => whnf); refine call_i (s_l12CopyResp l[k] (by omega)) ?_) | (refine ⟨_, ix, ?_⟩) | (refine ⟨rfl, ?_⟩) | (refine ⟨_, ia, ?_⟩) | (refine And.intro ?_ ?_; · decide)))
    all_goals exact ⟨k + 1, ⟨hlt, by omega⟩, le_mk [(0, _)] rfl ⟨⟨rfl, rfl⟩, ⟨rfl, rfl⟩, ⟨ctr (by omega), rfl⟩, trivial⟩ ⟨⟨rfl, rfl⟩, trivial⟩ rfl⟩
  · have hk2 : l.length ≤ k := by simpa using h
    rw [List.take_of_length_le hk2]
    (repeat' ((conv => whnf); first | refine br_i (fun _ => ?_) (fun _ => ?_) | (refine cur_leaf rfl rfl rfl ?_ ?_; · first | assumption | omega | exact hw ‹_›) | refine leaf_i rfl rfl ?_ | refine And.intro rfl ?_ | (refine And.intro ?_ ?_; · decide)))
    all_goals rfl
theorem m_clonePart (x : XPart) (h : x.tot ≤ 1048576) : PureC Try.prog 59 [x.v] [x.v] := by
  refine pureC_of (Γ := lookT tbl) (il := ilist) tg dr Try.func59 rfl (by kernel_rfl) rfl (Nat.le_of_ble_eq_true rfl) ?_
  (repeat' ((conv => whnf); first | refine br_i (fun _ => ?_) (fun _ => ?_) | (refine cur_leaf rfl rfl rfl ?_ ?_; · first | assumption | omega | exact hw ‹_›) | refine leaf_i rfl rfl ?_ | refine And.intro rfl ?_ | refine call_i (m_cloneReq x.Req h) ?_ | (refine Or.inl ?_; (conv => whnf); refine call_i (m_cloneReq x.Req h) ?_) | (refine And.intro ?_ ?_; · decide)))
  all_goals rfl
theorem m_cloneParts (l : List XPart) (h : XPart.sTot l ≤ 1048576) : PureC Try.prog 26 [XPart.sV l] [XPart.sV l] := by
  refine pureC_of (Γ := lookT tbl) (il := ilist) tg dr Try.func26 rfl (by kernel_rfl) rfl (Nat.le_of_ble_eq_true rfl) ?_
  have h1 := parts_tot l
  conv => whnf
  refine loop_i (fun k : Nat => ⟨envL [(3, .c (.row 0)), (6, .c (.pv (XPart.sP l))), (7, .c (.pv (.int .i64 l.length))), (8, .c (.pv (.int .i64 k)))], resL [(0, .row true 8 ((l.take k).map XPart.ps))], 1, 19⟩)
    (fun k => k ≤ l.length) (fun k => l.length - k) 0 (Nat.zero_le _) ((le_row 3 rfl).trans (le_mk [(0, _)] rfl ⟨⟨rfl, rfl⟩, ⟨rfl, rfl⟩, ⟨i64_eq (by simp), rfl⟩, ⟨rfl, rfl⟩, trivial⟩ ⟨⟨rfl, rfl⟩, trivial⟩ rfl)) ?_
  intro k hk
  conv => whnf
  refine br_i (fun h => ?_) (fun h => ?_)
  · have hlt : k < l.length := by simpa using h
    have hg := sumF_get XPart.tot l k hlt
    have ix := idx_map l XPart.ps k hlt 8
    have ia := app_row l XPart.ps k hlt 96 (by omega)
    (repeat' ((conv => whnf); first | refine br_i (fun _ => ?_) (fun _ => ?_) | (refine cur_leaf rfl rfl rfl ?_ ?_; · first | assumption | omega | exact hw ‹_›) | refine leaf_i rfl rfl ?_ | refine And.intro rfl ?_ | refine call_i (m_clonePart l[k] (by omega)) ?_ | (refine Or.inl ?_; (conv => whnf); refine call_i (m_clonePart l[k] (by omega)) ?_) | (refine ⟨_, ix, ?_⟩) | (refine ⟨rfl, ?_⟩) | (refine ⟨_, ia, ?_⟩) | (refine And.intro ?_ ?_; · decide)))
    all_goals exact ⟨k + 1, ⟨hlt, by omega⟩, le_mk [(0, _)] rfl ⟨⟨rfl, rfl⟩, ⟨rfl, rfl⟩, ⟨rfl, rfl⟩, ⟨ctr (by omega), rfl⟩, trivial⟩ ⟨⟨rfl, rfl⟩, trivial⟩ rfl⟩
  · have hk2 : l.length ≤ k := by simpa using h
    rw [List.take_of_length_le hk2]
    (repeat' ((conv => whnf); first | refine br_i (fun _ => ?_) (fun _ => ?_) | (refine cur_leaf rfl rfl rfl ?_ ?_; · first | assumption | omega | exact hw ‹_›) | refine leaf_i rfl rfl ?_ | refine And.intro rfl ?_ | (refine And.intro ?_ ?_; · decide)))
    all_goals rfl
theorem m_cloneResps (l : List XResp) (h : XResp.sTot l ≤ 1048576) : PureC Try.prog 57 [XResp.sV l] [XResp.sV l] := by
  refine pureC_of (Γ := lookT tbl) (il := ilist) tg dr Try.func57 rfl (by kernel_rfl) rfl (Nat.le_of_ble_eq_true rfl) ?_
  have h1 := resps_tot l
  conv => whnf
  refine loop_i (fun k : Nat => ⟨envL [(3, .c (.row 0)), (6, .c (.pv (XResp.sP l))), (7, .c (.pv (.int .i64 l.length))), (8, .c (.pv (.int .i64 k)))], resL [(0, .row true 6 ((l.take k).map XResp.ps))], 1, 19⟩)
    (fun k => k ≤ l.length) (fun k => l.length - k) 0 (Nat.zero_le _) ((le_row 3 rfl).trans (le_mk [(0, _)] rfl ⟨⟨rfl, rfl⟩, ⟨rfl, rfl⟩, ⟨i64_eq (by simp), rfl⟩, ⟨rfl, rfl⟩, trivial⟩ ⟨⟨rfl, rfl⟩, trivial⟩ rfl)) ?_
  intro k hk
  conv => whnf
  refine br_i (fun h => ?_) (fun h => ?_)
  · have hlt : k < l.length := by simpa using h
    have hg := sumF_get XResp.tot l k hlt
    have ix := idx_map l XResp.ps k hlt 6
    have ia := app_row l XResp.ps k hlt 80 (by omega)
    (repeat' ((conv => whnf); first | refine br_i (fun _ => ?_) (fun _ => ?_) | (refine cur_leaf rfl rfl rfl ?_ ?_; · first | assumption | omega | exact hw ‹_›) | refine leaf_i rfl rfl ?_ | refine And.intro rfl ?_ | refine call_i (m_cloneResp l[k] (by omega)) ?_ | (refine Or.inl ?_; (conv => whnf); refine call_i (m_cloneResp l[k] (by omega)) ?_) | (refine ⟨_, ix, ?_⟩) | (refine ⟨rfl, ?_⟩) | (refine ⟨_, ia, ?_⟩) | (refine And.intro ?_ ?_; · decide)))
    all_goals exact ⟨k + 1, ⟨hlt, by omega⟩, le_mk [(0, _)] rfl ⟨⟨rfl, rfl⟩, ⟨rfl, rfl⟩, ⟨rfl, rfl⟩, ⟨ctr (by omega), rfl⟩, trivial⟩ ⟨⟨rfl, rfl⟩, trivial⟩ rfl⟩
  · have hk2 : l.length ≤ k := by simpa using h
    rw [List.take_of_length_le hk2]
    (repeat' ((conv => whnf); first | refine br_i (fun _ => ?_) (fun _ => ?_) | (refine cur_leaf rfl rfl rfl ?_ ?_; · first | assumption | omega | exact hw ‹_›) | refine leaf_i rfl rfl ?_ | refine And.intro rfl ?_ | (refine And.intro ?_ ?_; · decide)))
    all_goals rfl
theorem s_l13CopyPend (x : XPend) (h : x.tot ≤ 1048576) : PureC Try.prog 46 [x.v] [x.v] := by
  refine pureC_of (Γ := lookT tbl) (il := ilist) tg dr Try.func46 rfl (by kernel_rfl) rfl (Nat.le_of_ble_eq_true rfl) ?_
  have h1 := pend_tot x
  (repeat' ((conv => whnf); first | refine br_i (fun _ => ?_) (fun _ => ?_) | (refine cur_leaf rfl rfl rfl ?_ ?_; · first | assumption | omega | exact hw ‹_›) | refine leaf_i rfl rfl ?_ | refine And.intro rfl ?_ | refine call_i (s_l10CopyReq x.Req (by omega)) ?_ | (refine Or.inl ?_; (conv => whnf); refine call_i (s_l10CopyReq x.Req (by omega)) ?_) | refine call_i (s_l13CopyParts x.Parts (by omega)) ?_ | (refine Or.inl ?_; (conv => whnf); refine call_i (s_l13CopyParts x.Parts (by omega)) ?_) | refine call_i (s_l13CopyTold x.Told (by omega)) ?_ | (refine Or.inl ?_; (conv => whnf); refine call_i (s_l13CopyTold x.Told (by omega)) ?_) | (refine ⟨⟨rfl, flat_bool _⟩, ?_⟩) | (refine ⟨x.Has.map boolEl, ⟨app_b _ (by omega), rfl⟩, ?_⟩) | (refine And.intro ?_ ?_; · decide)))
  all_goals rfl
theorem s_l13Copy (t : XTable) (h : t.tot ≤ 1048576) : PureC Try.prog 27 [t.v] [t.v] := by
  refine pureC_of (Γ := lookT tbl) (il := ilist) tg dr Try.func27 rfl (by kernel_rfl) rfl (Nat.le_of_ble_eq_true rfl) ?_
  have h1 := table_tot t
  have h2 := pends_tot t.List_
  conv => whnf
  refine loop_i (fun k : Nat => ⟨envL [(1, .c (.ptr 0 0)), (2, .c (.ptr 1 0)), (3, .c (.ptr 2 0)), (4, .c (.pv (.int .i64 k)))], resL [(0, .box (t.ps.map .pv)), (1, .box [.pv (.int .i64 0), .nil 13]), (2, .box [.pv (.int .i64 t.Next), .row 3]), (3, .row true 13 ((t.List_.take k).map XPend.ps))], 4, 27⟩)
    (fun k => k ≤ t.List_.length) (fun k => t.List_.length - k) 0 (Nat.zero_le _) ((le_rowE 3 1 rfl rfl rfl).trans (le_mk [(0, _), (1, _), (2, _), (3, _)] rfl ⟨⟨rfl, rfl⟩, ⟨rfl, rfl⟩, ⟨rfl, rfl⟩, ⟨rfl, rfl⟩, trivial⟩ ⟨⟨rfl, rfl⟩, ⟨rfl, rfl⟩, ⟨rfl, rfl⟩, ⟨rfl, rfl⟩, trivial⟩ rfl)) ?_
  intro k hk
  conv => whnf
  refine br_i (fun h => ?_) (fun h => ?_)
  · have hlt : k < t.List_.length := by simpa using h
    have hg := sumF_get XPend.tot t.List_ k hlt
    have ix := idx_map t.List_ XPend.ps k hlt 13
    have ia := app_row t.List_ XPend.ps k hlt 184 (by omega)
    (repeat' ((conv => whnf); first | refine br_i (fun _ => ?_) (fun _ => ?_) | (refine cur_leaf rfl rfl rfl ?_ ?_; · first | assumption | omega | exact hw ‹_›) | refine leaf_i rfl rfl ?_ | refine And.intro rfl ?_ | refine call_i (s_l13CopyPend t.List_[k] (by omega)) ?_ | (refine Or.inl ?_; (conv => whnf); refine call_i (s_l13CopyPend t.List_[k] (by omega)) ?_) | (refine ⟨_, ix, ?_⟩) | (refine ⟨rfl, ?_⟩) | (refine ⟨_, ia, ?_⟩) | (refine And.intro ?_ ?_; · decide)))
    all_goals exact ⟨k + 1, ⟨hlt, by omega⟩, le_mk [(0, _), (1, _), (2, _), (3, _)] rfl ⟨⟨rfl, rfl⟩, ⟨rfl, rfl⟩, ⟨rfl, rfl⟩, ⟨ctr (by omega), rfl⟩, trivial⟩ ⟨⟨rfl, rfl⟩, ⟨rfl, rfl⟩, ⟨rfl, rfl⟩, ⟨rfl, rfl⟩, trivial⟩ rfl⟩
  · have hk2 : t.List_.length ≤ k := by simpa using h
    rw [List.take_of_length_le hk2]
    (repeat' ((conv => whnf); first | refine br_i (fun _ => ?_) (fun _ => ?_) | (refine cur_leaf rfl rfl rfl ?_ ?_; · first | assumption | omega | exact hw ‹_›) | refine leaf_i rfl rfl ?_ | refine And.intro rfl ?_ | (refine And.intro ?_ ?_; · decide)))
    all_goals rfl
theorem m_cloneTable (t : XTable) (h : t.tot ≤ 1048576) : PureC Try.prog 24 [t.v] [t.v] := by
  refine pureC_of (Γ := lookT tbl) (il := ilist) tg dr Try.func24 rfl (by kernel_rfl) rfl (Nat.le_of_ble_eq_true rfl) ?_
  have h1 := table_tot t
  have h2 := pends_tot t.List_
  conv => whnf
  refine loop_i (fun k : Nat => ⟨envL [(2, .c (.ptr 1 0)), (3, .c (.ptr 2 0)), (10, .c (.pv (XPend.sP t.List_))), (11, .c (.pv (.int .i64 t.List_.length))), (12, .c (.pv (.int .i64 k)))], resL [(1, .box [.pv (.int .i64 0), .nil 13]), (2, .box [.pv (.int .i64 t.Next), .row 3]), (3, .row true 13 ((t.List_.take k).map XPend.ps))], 4, 40⟩)
    (fun k => k ≤ t.List_.length) (fun k => t.List_.length - k) 0 (Nat.zero_le _) ((le_rowE 3 1 rfl rfl rfl).trans (le_mk [(1, _), (2, _), (3, _)] rfl ⟨⟨rfl, rfl⟩, ⟨rfl, rfl⟩, ⟨rfl, rfl⟩, ⟨i64_eq (by simp), rfl⟩, ⟨rfl, rfl⟩, trivial⟩ ⟨⟨rfl, rfl⟩, ⟨rfl, rfl⟩, ⟨rfl, rfl⟩, trivial⟩ rfl)) ?_
  intro k hk
  conv => whnf
  refine br_i (fun h => ?_) (fun h => ?_)
  · have hlt : k < t.List_.length := by simpa using h
    have hg := sumF_get XPend.tot t.List_ k hlt
    have hp := pend_tot t.List_[k]
    have ix := idx_map t.List_ XPend.ps k hlt 13
    have ia := app_row t.List_ XPend.ps k hlt 184 (by omega)
    (repeat' ((conv => whnf); first | refine br_i (fun _ => ?_) (fun _ => ?_) | (refine cur_leaf rfl rfl rfl ?_ ?_; · first | assumption | omega | exact hw ‹_›) | refine leaf_i rfl rfl ?_ | refine And.intro rfl ?_ | refine call_i (m_cloneReq t.List_[k].Req (by omega)) ?_ | (refine Or.inl ?_; (conv => whnf); refine call_i (m_cloneReq t.List_[k].Req (by omega)) ?_) | refine call_i (m_cloneParts t.List_[k].Parts (by omega)) ?_ | (refine Or.inl ?_; (conv => whnf); refine call_i (m_cloneParts t.List_[k].Parts (by omega)) ?_) | refine call_i (m_CloneB t.List_[k].Has (by omega)) ?_ | (refine Or.inl ?_; (conv => whnf); refine call_i (m_CloneB t.List_[k].Has (by omega)) ?_) | refine call_i (m_cloneResps t.List_[k].Told (by omega)) ?_ | (refine Or.inl ?_; (conv => whnf); refine call_i (m_cloneResps t.List_[k].Told (by omega)) ?_) | (refine ⟨_, ix, ?_⟩) | (refine ⟨rfl, ?_⟩) | (refine ⟨_, ia, ?_⟩) | (refine And.intro ?_ ?_; · decide)))
    all_goals exact ⟨k + 1, ⟨hlt, by omega⟩, le_mk [(1, _), (2, _), (3, _)] rfl ⟨⟨rfl, rfl⟩, ⟨rfl, rfl⟩, ⟨rfl, rfl⟩, ⟨rfl, rfl⟩, ⟨ctr (by omega), rfl⟩, trivial⟩ ⟨⟨rfl, rfl⟩, ⟨rfl, rfl⟩, ⟨rfl, rfl⟩, trivial⟩ rfl⟩
  · have hk2 : t.List_.length ≤ k := by simpa using h
    rw [List.take_of_length_le hk2]
    (repeat' ((conv => whnf); first | refine br_i (fun _ => ?_) (fun _ => ?_) | (refine cur_leaf rfl rfl rfl ?_ ?_; · first | assumption | omega | exact hw ‹_›) | refine leaf_i rfl rfl ?_ | refine And.intro rfl ?_ | (refine And.intro ?_ ?_; · decide)))
    all_goals rfl
def openP (t : XTable) (s g u : Int) (q : XReq) (ps : List XPart) : XPend := ⟨t.Next, s, g, u, q, ps, List.replicate ps.length false, List.replicate ps.length XResp.zero⟩
def tableOpen (t : XTable) (s g u : Int) (q : XReq) (ps : List XPart) : XTable × Int × Bool := if !tableB t || decide (t.Next = 1000000000) || decide ((t.List_.length : Int) = 16) || !pendB (openP t s g u q ps) then (t, 0, false) else (⟨t.Next + 1, t.List_ ++ [openP t s g u q ps]⟩, t.Next, true)
theorem mk_b (l : List XPart) (h : l.length ≤ 1048576) : (((((l.map XPart.ps).length : Int) = (l.length : Nat) ∧ ((l.map XPart.ps).length : Int) = (l.length : Nat)) ∧ 1 * l.length ≤ 140737488355328 ∧ 1 ≤ 1) ∧ (List.replicate l.length false).map boolEl = List.replicate l.length [PV.bool false]) :=
  ⟨⟨⟨by simp, by simp⟩, by omega, by decide⟩, List.map_replicate⟩
theorem mk_r (l : List XPart) (h : l.length ≤ 1048576) : (((((l.map XPart.ps).length : Int) = (l.length : Nat) ∧ ((l.map XPart.ps).length : Int) = (l.length : Nat)) ∧ 80 * l.length ≤ 140737488355328 ∧ 1 ≤ 80) ∧ (List.replicate l.length XResp.zero).map XResp.ps = List.replicate l.length XResp.zero.ps) :=
  ⟨⟨⟨by simp, by simp⟩, by omega, by decide⟩, List.map_replicate⟩
theorem open_no {t : XTable} {s g u : Int} {q : XReq} {ps : List XPart} (h : (!tableB t || decide (t.Next = 1000000000) || decide ((t.List_.length : Int) = 16) || !pendB (openP t s g u q ps)) = true) : tableOpen t s g u q ps = (t, 0, false) := if_pos h
theorem open_yes {t : XTable} {s g u : Int} {q : XReq} {ps : List XPart} (h : (!tableB t || decide (t.Next = 1000000000) || decide ((t.List_.length : Int) = 16) || !pendB (openP t s g u q ps)) = false) : tableOpen t s g u q ps = (⟨t.Next + 1, t.List_ ++ [openP t s g u q ps]⟩, t.Next, true) := if_neg (by rw [h]; decide)
theorem open_app (t : XTable) (p : XPend) (h : t.List_.length ≤ 1048576) : ((t.List_.map XPend.ps).length + 1) * 184 ≤ 140737488355328 ∧ (t.List_ ++ [p]).map XPend.ps = t.List_.map XPend.ps ++ [p.ps] := by
  refine ⟨?_, by rw [List.map_append]; rfl⟩
  rw [List.length_map]
  omega
theorem table_b {t : XTable} (h : tableB t = true) : 0 ≤ t.Next ∧ t.Next ≤ 1000000000 ∧ t.List_.length ≤ 16 := by
  simp [tableB, inB] at h
  omega
theorem open_fin {t : XTable} {s g u : Int} {q : XReq} {ps : List XPart} (h : (!tableB t || decide (t.Next = 1000000000) || decide ((t.List_.length : Int) = 16) || !pendB (openP t s g u q ps)) = false) : [VV.agg [PV.int .i64 (IntKind.i64.wrap (t.Next + 1)), PV.sl 13 ((t.List_ ++ [openP t s g u q ps]).map XPend.ps)], i64v t.Next, boolv true] = [(tableOpen t s g u q ps).1.v, i64v (tableOpen t s g u q ps).2.1, boolv (tableOpen t s g u q ps).2.2] := by
  rw [open_yes h]
  have hb : tableB t = true := by cases hh : tableB t <;> simp_all
  have := table_b hb
  rw [show IntKind.i64.wrap (t.Next + 1) = t.Next + 1 from wrap_ok (by omega) (by omega)]
  rfl
theorem rowB_app {t : XTable} {p : XPend} {i : Nat} (hi : i < t.List_.length) (h : rowB t i = true) : rowB ⟨t.Next + 1, t.List_ ++ [p]⟩ i = true := by
  have e1 : (t.List_ ++ [p]).getD i XPend.zero = t.List_.getD i XPend.zero := by simp [List.getD, List.getElem?_append_left hi]
  have e2 : (t.List_ ++ [p]).getD (i - 1) XPend.zero = t.List_.getD (i - 1) XPend.zero := by simp [List.getD, List.getElem?_append_left (show i - 1 < t.List_.length by omega)]
  simp only [rowB, e1, e2] at h ⊢
  generalize t.List_.getD i XPend.zero = a at *
  generalize t.List_.getD (i - 1) XPend.zero = b at *
  simp at h ⊢
  refine ⟨⟨h.1.1, h.1.2.1, by omega⟩, h.2⟩
theorem tableB_app {t : XTable} {p : XPend} (h : tableB t = true) (hl : t.List_.length < 16) (hp : p.Id = t.Next) : tableB ⟨t.Next + 1, t.List_ ++ [p]⟩ = (!decide (t.Next = 1000000000) && pendB p) := by
  have hb := table_b h
  have hr : ∀ i, i < t.List_.length → rowB t i = true := by
    intro i hi
    simp only [tableB, Bool.and_eq_true] at h
    exact List.all_eq_true.1 h.2 i (List.mem_range.2 hi)
  have hA : (List.range t.List_.length).all (rowB ⟨t.Next + 1, t.List_ ++ [p]⟩) = true := List.all_eq_true.2 fun i hi => rowB_app (List.mem_range.1 hi) (hr i (List.mem_range.1 hi))
  have hL : rowB ⟨t.Next + 1, t.List_ ++ [p]⟩ t.List_.length = pendB p := by
    have e1 : (t.List_ ++ [p]).getD t.List_.length XPend.zero = p := by simp [List.getD]
    unfold rowB
    simp only [e1]
    by_cases h0 : t.List_.length = 0
    · simp [h0, hp]; omega
    · have e2 : (t.List_ ++ [p]).getD (t.List_.length - 1) XPend.zero = t.List_.getD (t.List_.length - 1) XPend.zero := by simp [List.getD, List.getElem?_append_left (show t.List_.length - 1 < t.List_.length by omega)]
      have h3 := hr (t.List_.length - 1) (by omega)
      rw [e2]
      simp only [rowB] at h3
      generalize t.List_.getD (t.List_.length - 1) XPend.zero = a at *
      simp at h3
      have ha : a.Id < t.Next := h3.1.2.2
      simp [h0, hp, ha, hb.1]
      omega
  unfold tableB
  simp only [List.length_append, List.length_singleton, List.range_succ, List.all_append, List.all_cons, List.all_nil, hA, hL, Bool.true_and, Bool.and_true]
  rw [Bool.eq_iff_iff]
  simp [inB]
  omega
theorem s_TableOpen (t : XTable) (s g u : Int) (q : XReq) (ps : List XPart) (h : t.tot ≤ 1048576) (h2 : q.tot ≤ 1048576) (h3 : XPart.sTot ps ≤ 1048576) : PureC Try.prog 7 [t.v, i64v s, i64v g, i64v u, q.v, XPart.sV ps] [(tableOpen t s g u q ps).1.v, i64v (tableOpen t s g u q ps).2.1, boolv (tableOpen t s g u q ps).2.2] := by
  refine pureC_of (Γ := lookT tbl) (il := ilist) tg dr Try.func7 rfl (by kernel_rfl) rfl (Nat.le_of_ble_eq_true rfl) ?_
  have hl := parts_tot ps
  have hn := table_tot t
  have hn2 := pends_tot t.List_
  have hb := mk_b ps (by omega)
  have hr := mk_r ps (by omega)
  (repeat' ((conv => whnf); first | refine br_i (fun _ => ?_) (fun _ => ?_) | (refine cur_leaf rfl rfl rfl ?_ ?_; · first | assumption | omega | exact hw ‹_›) | refine leaf_i rfl rfl ?_ | refine And.intro rfl ?_ | ((refine inl_nd (Γ := lookT tbl) [26] ?_; (conv => whnf); refine nd_i (ndC_pure (s_l13Copy t h)) ?_; rintro _ rfl)) | refine call_i (s_l13Copy t h) ?_ | (refine Or.inl ?_; (conv => whnf); refine call_i (s_l13Copy t h) ?_) | refine call_i (s_l10CopyReq q h2) ?_ | (refine Or.inl ?_; (conv => whnf); refine call_i (s_l10CopyReq q h2) ?_) | refine call_i (s_l13CopyParts ps h3) ?_ | (refine Or.inl ?_; (conv => whnf); refine call_i (s_l13CopyParts ps h3) ?_) | refine call_i (s_TableOk t) ?_ | (refine Or.inl ?_; (conv => whnf); refine call_i (s_TableOk t) ?_) | refine call_i (s_Pend (openP t s g u q ps)) ?_ | (refine Or.inl ?_; (conv => whnf); refine call_i (s_Pend (openP t s g u q ps)) ?_) | (refine ⟨_, _, hb, ?_⟩) | (refine ⟨_, _, hr, ?_⟩) | (refine ⟨rfl, ?_⟩) | (refine ⟨_, open_app t (openP t s g u q ps) (by omega), ?_⟩) | (refine And.intro ?_ ?_; · decide)))
  all_goals first | exact open_fin (by clear hb hr; (first | (simp_all []; done) | (simp_all []; omega))) | (rw [open_no (by clear hb hr; (first | (simp_all []; done) | (simp_all []; omega)))]; rfl)
theorem m_TableOpen (t : XTable) (s g u : Int) (q : XReq) (ps : List XPart) (h : t.tot ≤ 1048576) (h2 : q.tot ≤ 1048576) (h3 : XPart.sTot ps ≤ 1048576) : PureC Try.prog 6 [t.v, i64v s, i64v g, i64v u, q.v, XPart.sV ps] [(tableOpen t s g u q ps).1.v, i64v (tableOpen t s g u q ps).2.1, boolv (tableOpen t s g u q ps).2.2] := by
  refine pureC_of (Γ := lookT tbl) (il := ilist) tg dr Try.func6 rfl (by kernel_rfl) rfl (Nat.le_of_ble_eq_true rfl) ?_
  have hl := parts_tot ps
  have hn := table_tot t
  have hn2 := pends_tot t.List_
  have hb := mk_b ps (by omega)
  have hr := mk_r ps (by omega)
  (repeat' ((conv => whnf); first | refine br_i (fun _ => ?_) (fun _ => ?_) | (refine cur_leaf rfl rfl rfl ?_ ?_; · first | assumption | omega | exact hw ‹_›) | refine leaf_i rfl rfl ?_ | refine And.intro rfl ?_ | ((refine inl_nd (Γ := lookT tbl) [26] ?_; (conv => whnf); refine nd_i (ndC_pure (m_cloneTable t h)) ?_; rintro _ rfl)) | refine call_i (m_cloneTable t h) ?_ | (refine Or.inl ?_; (conv => whnf); refine call_i (m_cloneTable t h) ?_) | refine call_i (m_cloneReq q h2) ?_ | (refine Or.inl ?_; (conv => whnf); refine call_i (m_cloneReq q h2) ?_) | refine call_i (m_cloneParts ps h3) ?_ | (refine Or.inl ?_; (conv => whnf); refine call_i (m_cloneParts ps h3) ?_) | refine call_i (m_TableOk t (by omega)) ?_ | (refine Or.inl ?_; (conv => whnf); refine call_i (m_TableOk t (by omega)) ?_) | refine call_i (m_TableOk ⟨IntKind.i64.wrap (t.Next + 1), t.List_ ++ [openP t s g u q ps]⟩ (by simp; omega)) ?_ | (refine Or.inl ?_; (conv => whnf); refine call_i (m_TableOk ⟨IntKind.i64.wrap (t.Next + 1), t.List_ ++ [openP t s g u q ps]⟩ (by simp; omega)) ?_) | (refine ⟨_, _, hb, ?_⟩) | (refine ⟨_, _, hr, ?_⟩) | (refine ⟨rfl, ?_⟩) | (refine ⟨_, open_app t (openP t s g u q ps) (by omega), ?_⟩) | (refine And.intro ?_ ?_; · decide)))
  all_goals clear hb hr
  · rw [open_no (by (first | (simp_all []; done) | (simp_all []; omega)))]; rfl
  all_goals (have hT : tableB t = true := by (first | (simp_all []; done) | (simp_all []; omega)))
  all_goals (have hb := table_b hT)
  · rename_i x1 x2
    have hc : 16 ≤ t.List_.length := by simp at x2; omega
    rw [open_no (by rw [hT, decide_eq_true (show (t.List_.length : Int) = 16 by omega)]; simp)]
    rfl
  all_goals (have hw : IntKind.i64.wrap (t.Next + 1) = t.Next + 1 := wrap_ok (by omega) (by omega))
  all_goals rename_i x1 x2 x3
  all_goals (have hc : t.List_.length < 16 := by simp at x2; omega)
  all_goals (have hA := tableB_app (p := openP t s g u q ps) hT hc rfl)
  all_goals (have hd : decide ((t.List_.length : Int) = 16) = false := decide_eq_false (by omega))
  all_goals rw [hw, hA] at x3
  · refine (?_ : _ = _).trans (by rw [open_no (by rw [hT, hd]; revert x3; cases pendB (openP t s g u q ps) <;> cases decide (t.Next = 1000000000) <;> decide)])
    rfl
  · exact open_fin (by rw [hT, hd]; revert x3; cases pendB (openP t s g u q ps) <;> cases decide (t.Next = 1000000000) <;> decide)
theorem sumF_mon {α : Type} {f g : α → Nat} (h : ∀ x, f x ≤ g x) (l : List α) : sumF f l ≤ sumF g l := by
  induction l with
  | nil => exact Nat.le_refl _
  | cons a l ih => have := h a; simp [sumF]; omega
theorem sumF_lin {α : Type} (f : α → Nat) (c d : Nat) (l : List α) : sumF (fun x => c + d * f x) l = c * l.length + d * sumF f l := by
  induction l with
  | nil => simp [sumF]
  | cons a l ih => simp [sumF, ih, Nat.mul_add]; omega
theorem sum_rep {α : Type} (f : α → Nat) (a : α) (n : Nat) : sumF f (List.replicate n a) = n * f a := by
  induction n with
  | zero => simp [sumF]
  | succ n ih => simp [List.replicate_succ, sumF, ih, Nat.succ_mul]; omega
end Go.Proofs.Ytnpcgheojijpjaa
