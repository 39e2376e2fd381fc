/- Lines: copies, and what they do. -/
import Derived.Test.YtciiiandmpjndaaXClone
namespace Go.Proofs.Ytciiiandmpjndaa
open Go Go.Vi
set_option linter.unusedVariables false
set_option linter.unusedSimpArgs false
set_option maxRecDepth 100000
theorem line_tot (l : XLine) : l.tot = l.Queue.length + sumF XCall.tot l.Queue + l.Call.tot := rfl
theorem m_cloneLine (l : XLine) (h : l.tot ≤ 1048576) : PureC Try.prog 23 [l.v] [l.v] := by
  refine pureC_of (Γ := lookT tbl) (il := ilist) tg dr Try.func23 rfl (by kernel_rfl) rfl (Nat.le_of_ble_eq_true rfl) ?_
  have h1 := line_tot l
  conv => whnf
  refine call_i (m_cloneCall l.Call (by omega)) ?_
  conv => whnf
  refine loop_i (fun k : Nat => ⟨envL [(1, .c (.ptr 0 0)), (2, .c (.ptr 4 0)), (3, .c (.row 3)), (11, .c (.pv (XCall.sP l.Queue))), (12, .c (.pv (.int .i64 l.Queue.length))), (13, .c (.pv (.int .i64 k)))],
      resL [(0, .box [.pv (XCall.sP l.Queue), .pv (.bool l.Busy), .pv (.int .i64 l.Call.Id), .pv (.int .i64 l.Call.Part), .pv (.int .i64 l.Call.Unit), .pv (.int .i64 l.Call.Req.Kind), .pv (.int .i64 l.Call.Req.At), .pv (.int .i64 l.Call.Req.N), .row 1, .row 2, .pv (.int .i64 l.Call.Req.WAt), .pv (.int .i64 l.Number), .pv (.int .i64 l.Due), .pv (.int .i64 l.Left), .pv (.int .i64 l.Next), .pv (.int .i64 l.Wait), .pv (.int .i64 l.Tries)]), (1, .row true 1 (l.Call.Req.Words.map intEl)), (2, .row true 1 (l.Call.Req.Bits.map boolEl)), (3, .row true 9 ((l.Queue.take k).map XCall.ps)), (4, .box [.nil 9, .pv (.bool false), .pv (.int .i64 0), .pv (.int .i64 0), .pv (.int .i64 0), .pv (.int .i64 0), .pv (.int .i64 0), .pv (.int .i64 0), .nil 1, .nil 1, .pv (.int .i64 0), .pv (.int .i64 0), .pv (.int .i64 0), .pv (.int .i64 0), .pv (.int .i64 0), .pv (.int .i64 0), .pv (.int .i64 0)])], 5, 26⟩)
    (fun k => k ≤ l.Queue.length) (fun k => l.Queue.length - k) 0 (Nat.zero_le _) ((le_row 3 rfl).trans (le_mk [(0, _), (4, _), (3, _), (1, _), (2, _)] rfl ⟨⟨rfl, rfl⟩, ⟨rfl, rfl⟩, ⟨rfl, rfl⟩, ⟨rfl, rfl⟩, ⟨i64_eq (by simp), rfl⟩, ⟨rfl, rfl⟩, trivial⟩ ⟨⟨rfl, rfl⟩, ⟨rfl, rfl⟩, ⟨rfl, rfl⟩, ⟨rfl, rfl⟩, ⟨rfl, rfl⟩, trivial⟩ rfl)) ?_
  intro k hk
  conv => whnf
  refine br_i (fun h => ?_) (fun h => ?_)
  · have hlt : k < l.Queue.length := by simpa using h
    have hg := sumF_get XCall.tot l.Queue k hlt
    conv => whnf
    refine ⟨_, idx_map l.Queue XCall.ps k hlt 9, ?_⟩
    conv => whnf
    refine call_i (m_cloneCall l.Queue[k] (by omega)) ?_
    conv => whnf
    refine ⟨rfl, ?_⟩
    conv => whnf
    refine ⟨(l.Queue.take (k + 1)).map XCall.ps, ⟨by show (((l.Queue.take k).map XCall.ps).length + 1) * 104 ≤ 140737488355328; rw [List.length_map, List.length_take]; omega, by rw [List.take_succ_eq_append_getElem hlt, List.map_append]; rfl⟩, ?_⟩
    conv => whnf
    exact ⟨k + 1, ⟨hlt, by omega⟩, le_mk [(0, _), (4, _), (3, _), (1, _), (2, _)] rfl ⟨⟨rfl, rfl⟩, ⟨rfl, rfl⟩, ⟨rfl, rfl⟩, ⟨rfl, rfl⟩, ⟨rfl, rfl⟩, ⟨ctr (by omega), rfl⟩, trivial⟩ ⟨⟨rfl, rfl⟩, ⟨rfl, rfl⟩, ⟨rfl, rfl⟩, ⟨rfl, rfl⟩, ⟨rfl, rfl⟩, trivial⟩ rfl⟩
  · have hk2 : l.Queue.length ≤ k := by simpa using h
    rw [List.take_of_length_le hk2]
    (repeat' ((conv => whnf); first | refine br_i (fun _ => ?_) (fun _ => ?_) | (refine cur_leaf rfl rfl rfl ?_ ?_; · first | assumption | omega | exact hw ‹_›) | refine leaf_i rfl rfl ?_ | refine And.intro rfl ?_ | (refine And.intro ?_ ?_; · decide)))
    all_goals rfl
theorem s_l12Copy (l : XLine) (h : l.tot ≤ 1048576) : PureC Try.prog 26 [l.v] [l.v] := by
  refine pureC_of (Γ := lookT tbl) (il := ilist) tg dr Try.func26 rfl (by kernel_rfl) rfl (Nat.le_of_ble_eq_true rfl) ?_
  have h1 := line_tot l
  conv => whnf
  refine call_i (s_l12CopyCall l.Call (by omega)) ?_
  conv => whnf
  refine loop_i (fun k : Nat => ⟨envL [(1, .c (.ptr 0 0)), (2, .c (.ptr 4 0)), (3, .c (.ptr 5 0)), (4, .c (.pv (.int .i64 k)))],
      resL [(0, .box (l.ps.map .pv)), (5, .box [.row 3, .pv (.bool l.Busy), .pv (.int .i64 l.Call.Id), .pv (.int .i64 l.Call.Part), .pv (.int .i64 l.Call.Unit), .pv (.int .i64 l.Call.Req.Kind), .pv (.int .i64 l.Call.Req.At), .pv (.int .i64 l.Call.Req.N), .row 1, .row 2, .pv (.int .i64 l.Call.Req.WAt), .pv (.int .i64 l.Number), .pv (.int .i64 l.Due), .pv (.int .i64 l.Left), .pv (.int .i64 l.Next), .pv (.int .i64 l.Wait), .pv (.int .i64 l.Tries)]), (1, .row true 1 (l.Call.Req.Words.map intEl)), (2, .row true 1 (l.Call.Req.Bits.map boolEl)), (3, .row true 9 ((l.Queue.take k).map XCall.ps)), (4, .box [.nil 9, .pv (.bool false), .pv (.int .i64 0), .pv (.int .i64 0), .pv (.int .i64 0), .pv (.int .i64 0), .pv (.int .i64 0), .pv (.int .i64 0), .nil 1, .nil 1, .pv (.int .i64 0), .pv (.int .i64 0), .pv (.int .i64 0), .pv (.int .i64 0), .pv (.int .i64 0), .pv (.int .i64 0), .pv (.int .i64 0)])], 6, 31⟩)
    (fun k => k ≤ l.Queue.length) (fun k => l.Queue.length - k) 0 (Nat.zero_le _) (le_mk [(0, _), (4, _), (5, _), (3, _), (1, _), (2, _)] rfl ⟨⟨rfl, rfl⟩, ⟨rfl, rfl⟩, ⟨rfl, rfl⟩, ⟨rfl, rfl⟩, trivial⟩ ⟨⟨rfl, rfl⟩, ⟨rfl, rfl⟩, ⟨rfl, rfl⟩, ⟨rfl, rfl⟩, ⟨rfl, rfl⟩, ⟨rfl, rfl⟩, trivial⟩ rfl) ?_
  intro k hk
  conv => whnf
  refine br_i (fun h => ?_) (fun h => ?_)
  · have hlt : k < l.Queue.length := by simpa using h
    have hg := sumF_get XCall.tot l.Queue k hlt
    conv => whnf
    refine ⟨_, idx_map l.Queue XCall.ps k hlt 9, ?_⟩
    conv => whnf
    refine call_i (s_l12CopyCall l.Queue[k] (by omega)) ?_
    conv => whnf
    refine ⟨rfl, ?_⟩
    conv => whnf
    refine ⟨(l.Queue.take (k + 1)).map XCall.ps, ⟨by show (((l.Queue.take k).map XCall.ps).length + 1) * 104 ≤ 140737488355328; rw [List.length_map, List.length_take]; omega, by rw [List.take_succ_eq_append_getElem hlt, List.map_append]; rfl⟩, ?_⟩
    conv => whnf
    refine And.intro rfl ?_
    conv => whnf
    exact ⟨k + 1, ⟨hlt, by omega⟩, le_mk [(0, _), (4, _), (5, _), (3, _), (1, _), (2, _)] rfl ⟨⟨rfl, rfl⟩, ⟨rfl, rfl⟩, ⟨rfl, rfl⟩, ⟨ctr (by omega), rfl⟩, trivial⟩ ⟨⟨rfl, rfl⟩, ⟨rfl, rfl⟩, ⟨rfl, rfl⟩, ⟨rfl, rfl⟩, ⟨rfl, rfl⟩, ⟨rfl, rfl⟩, trivial⟩ rfl⟩
  · have hk2 : l.Queue.length ≤ k := by simpa using h
    rw [List.take_of_length_le hk2]
    (repeat' ((conv => whnf); first | refine br_i (fun _ => ?_) (fun _ => ?_) | (refine cur_leaf rfl rfl rfl ?_ ?_; · first | assumption | omega | exact hw ‹_›) | refine leaf_i rfl rfl ?_ | refine And.intro rfl ?_ | (refine And.intro ?_ ?_; · decide)))
    all_goals rfl
def linePut (l : XLine) (c : XCall) : XLine × Bool := if !lineOk l || !specCall c || decide ((l.Queue.length : Int) = 40) then (l, false) else ({ l with Queue := l.Queue ++ [c] }, true)
theorem put_app (l : XLine) (c : XCall) (h : l.tot ≤ 1048576) : ((l.Queue.map XCall.ps).length + 1) * 104 ≤ 140737488355328 ∧ (l.Queue ++ [c]).map XCall.ps = l.Queue.map XCall.ps ++ [c.ps] := by
  have h1 := line_tot l
  refine ⟨?_, by rw [List.map_append]; rfl⟩
  rw [List.length_map]
  omega
theorem s_LinePut (l : XLine) (c : XCall) (h : l.tot ≤ 1048576) (h2 : c.tot ≤ 1048576) : PureC Try.prog 8 [l.v, c.v] [(linePut l c).1.v, boolv (linePut l c).2] := by
  refine pureC_of (Γ := lookT tbl) (il := ilist) tg dr Try.func8 rfl (by kernel_rfl) rfl (Nat.le_of_ble_eq_true rfl) ?_
  (repeat' ((conv => whnf); first | refine br_i (fun _ => ?_) (fun _ => ?_) | (refine cur_leaf rfl rfl rfl ?_ ?_; · first | assumption | omega | exact hw ‹_›) | refine leaf_i rfl rfl ?_ | refine And.intro rfl ?_ | refine call_i (s_l12Copy l h) ?_ | (refine Or.inl ?_; (conv => whnf); refine call_i (s_l12Copy l h) ?_) | refine call_i (s_LineOk l) ?_ | (refine Or.inl ?_; (conv => whnf); refine call_i (s_LineOk l) ?_) | refine call_i (s_call c) ?_ | (refine Or.inl ?_; (conv => whnf); refine call_i (s_call c) ?_) | refine call_i (s_l12CopyCall c h2) ?_ | (refine Or.inl ?_; (conv => whnf); refine call_i (s_l12CopyCall c h2) ?_) | (refine ⟨rfl, ?_⟩) | (refine ⟨_, put_app l c h, ?_⟩) | (refine And.intro ?_ ?_; · decide)))
  all_goals first | (rw [show linePut l c = (l, false) by (first | (simp_all [linePut]; done) | (simp_all [linePut]; omega))]; rfl) | (rw [show linePut l c = ({ l with Queue := l.Queue ++ [c] }, true) by (first | (simp_all [linePut]; done) | (simp_all [linePut]; omega))]; rfl)
theorem m_LinePut (l : XLine) (c : XCall) (h : l.tot ≤ 1048576) (h2 : c.tot ≤ 1048576) : PureC Try.prog 7 [l.v, c.v] [(linePut l c).1.v, boolv (linePut l c).2] := by
  refine pureC_of (Γ := lookT tbl) (il := ilist) tg dr Try.func7 rfl (by kernel_rfl) rfl (Nat.le_of_ble_eq_true rfl) ?_
  (repeat' ((conv => whnf); first | refine br_i (fun _ => ?_) (fun _ => ?_) | (refine cur_leaf rfl rfl rfl ?_ ?_; · first | assumption | omega | exact hw ‹_›) | refine leaf_i rfl rfl ?_ | refine And.intro rfl ?_ | refine call_i (m_cloneLine l h) ?_ | (refine Or.inl ?_; (conv => whnf); refine call_i (m_cloneLine l h) ?_) | refine call_i (m_LineOk l) ?_ | (refine Or.inl ?_; (conv => whnf); refine call_i (m_LineOk l) ?_) | refine call_i (m_call c) ?_ | (refine Or.inl ?_; (conv => whnf); refine call_i (m_call c) ?_) | refine call_i (m_cloneCall c h2) ?_ | (refine Or.inl ?_; (conv => whnf); refine call_i (m_cloneCall c h2) ?_) | (refine ⟨rfl, ?_⟩) | (refine ⟨_, put_app l c h, ?_⟩) | (refine And.intro ?_ ?_; · decide)))
  all_goals first | (rw [show linePut l c = (l, false) by (first | (simp_all [linePut]; done) | (simp_all [linePut]; omega))]; rfl) | (rw [show linePut l c = ({ l with Queue := l.Queue ++ [c] }, true) by (first | (simp_all [linePut]; done) | (simp_all [linePut]; omega))]; rfl)
end Go.Proofs.Ytciiiandmpjndaa
