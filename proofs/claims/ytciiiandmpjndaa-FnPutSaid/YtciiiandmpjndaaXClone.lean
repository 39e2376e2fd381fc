/- Copies: of rows, questions, calls, lines. -/
import Derived.Test.YtciiiandmpjndaaXResp
namespace Go.Proofs.Ytciiiandmpjndaa
open Go Go.Vi
set_option linter.unusedVariables false
set_option linter.unusedSimpArgs false
set_option maxRecDepth 100000
theorem m_CloneI (l : List Int) (hl : l.length ≤ 1048576) : PureC Try.prog 70 [intsV l] [intsV l] := by
  refine pureC_of (Γ := lookT tbl) (il := ilist) tg dr Try.func70 rfl (by kernel_rfl) rfl (Nat.le_of_ble_eq_true rfl) ?_
  conv => whnf
  refine ⟨⟨_, _, rfl, rfl⟩, fun b hb => ?_⟩
  conv => whnf
  refine br_i (fun h => ?_) (fun h => ?_) <;> conv => whnf
  · have h1 := hb (by simpa using h)
    simp at h1
    subst h1
    exact leaf_i rfl rfl rfl
  · refine ⟨⟨rfl, flat_int l⟩, ?_⟩
    conv => whnf
    refine ⟨l.map intEl, ⟨by show (0 + (l.map intEl).length) * 8 ≤ 140737488355328; rw [List.length_map]; omega, rfl⟩, ?_⟩
    conv => whnf
    exact leaf_i rfl rfl rfl
theorem m_CloneB (l : List Bool) (hl : l.length ≤ 1048576) : PureC Try.prog 71 [boolsV l] [boolsV l] := by
  refine pureC_of (Γ := lookT tbl) (il := ilist) tg dr Try.func71 rfl (by kernel_rfl) rfl (Nat.le_of_ble_eq_true rfl) ?_
  conv => whnf
  refine ⟨⟨_, _, rfl, rfl⟩, fun b hb => ?_⟩
  conv => whnf
  refine br_i (fun h => ?_) (fun h => ?_) <;> conv => whnf
  · have h1 := hb (by simpa using h)
    simp at h1
    subst h1
    exact leaf_i rfl rfl rfl
  · refine ⟨⟨rfl, flat_bool l⟩, ?_⟩
    conv => whnf
    refine ⟨l.map boolEl, ⟨by show (0 + (l.map boolEl).length) * 1 ≤ 140737488355328; rw [List.length_map]; omega, rfl⟩, ?_⟩
    conv => whnf
    exact leaf_i rfl rfl rfl
theorem m_cloneReq (x : XReq) (h : x.tot ≤ 1048576) : PureC Try.prog 49 [x.v] [x.v] := by
  refine pureC_of (Γ := lookT tbl) (il := ilist) tg dr Try.func49 rfl (by kernel_rfl) rfl (Nat.le_of_ble_eq_true rfl) ?_
  unfold XReq.tot at h
  (repeat' ((conv => whnf); first | refine br_i (fun _ => ?_) (fun _ => ?_) | (refine cur_leaf rfl rfl rfl ?_ ?_; · first | assumption | omega | exact hw ‹_›) | refine leaf_i rfl rfl ?_ | refine And.intro rfl ?_ | refine call_i (m_CloneI x.Words (by omega)) ?_ | (refine Or.inl ?_; (conv => whnf); refine call_i (m_CloneI x.Words (by omega)) ?_) | refine call_i (m_CloneB x.Bits (by omega)) ?_ | (refine Or.inl ?_; (conv => whnf); refine call_i (m_CloneB x.Bits (by omega)) ?_) | (refine And.intro ?_ ?_; · decide)))
  all_goals rfl
theorem m_cloneResp (x : XResp) (h : x.tot ≤ 1048576) : PureC Try.prog 43 [x.v] [x.v] := by
  refine pureC_of (Γ := lookT tbl) (il := ilist) tg dr Try.func43 rfl (by kernel_rfl) rfl (Nat.le_of_ble_eq_true rfl) ?_
  unfold XResp.tot at h
  (repeat' ((conv => whnf); first | refine br_i (fun _ => ?_) (fun _ => ?_) | (refine cur_leaf rfl rfl rfl ?_ ?_; · first | assumption | omega | exact hw ‹_›) | refine leaf_i rfl rfl ?_ | refine And.intro rfl ?_ | refine call_i (m_CloneI x.Words (by omega)) ?_ | (refine Or.inl ?_; (conv => whnf); refine call_i (m_CloneI x.Words (by omega)) ?_) | refine call_i (m_CloneB x.Bits (by omega)) ?_ | (refine Or.inl ?_; (conv => whnf); refine call_i (m_CloneB x.Bits (by omega)) ?_) | (refine And.intro ?_ ?_; · decide)))
  all_goals rfl
theorem app_i (l : List Int) (hl : l.length ≤ 1048576) : (0 + (l.map intEl).length) * 8 ≤ 140737488355328 := by rw [List.length_map]; omega
theorem app_b (l : List Bool) (hl : l.length ≤ 1048576) : (0 + (l.map boolEl).length) * 1 ≤ 140737488355328 := by rw [List.length_map]; omega
theorem s_l10CopyReq (x : XReq) (h : x.tot ≤ 1048576) : PureC Try.prog 52 [x.v] [x.v] := by
  refine pureC_of (Γ := lookT tbl) (il := ilist) tg dr Try.func52 rfl (by kernel_rfl) rfl (Nat.le_of_ble_eq_true rfl) ?_
  unfold XReq.tot at h
  (repeat' ((conv => whnf); first | refine br_i (fun _ => ?_) (fun _ => ?_) | (refine cur_leaf rfl rfl rfl ?_ ?_; · first | assumption | omega | exact hw ‹_›) | refine leaf_i rfl rfl ?_ | refine And.intro rfl ?_ | (refine ⟨⟨rfl, flat_int _⟩, ?_⟩) | (refine ⟨⟨rfl, flat_bool _⟩, ?_⟩) | (refine ⟨x.Words.map intEl, ⟨app_i _ (by omega), rfl⟩, ?_⟩) | (refine ⟨x.Bits.map boolEl, ⟨app_b _ (by omega), rfl⟩, ?_⟩) | (refine And.intro ?_ ?_; · decide)))
  all_goals rfl
theorem s_l12CopyResp (x : XResp) (h : x.tot ≤ 1048576) : PureC Try.prog 83 [x.v] [x.v] := by
  refine pureC_of (Γ := lookT tbl) (il := ilist) tg dr Try.func83 rfl (by kernel_rfl) rfl (Nat.le_of_ble_eq_true rfl) ?_
  unfold XResp.tot at h
  (repeat' ((conv => whnf); first | refine br_i (fun _ => ?_) (fun _ => ?_) | (refine cur_leaf rfl rfl rfl ?_ ?_; · first | assumption | omega | exact hw ‹_›) | refine leaf_i rfl rfl ?_ | refine And.intro rfl ?_ | (refine ⟨⟨rfl, flat_int _⟩, ?_⟩) | (refine ⟨⟨rfl, flat_bool _⟩, ?_⟩) | (refine ⟨x.Words.map intEl, ⟨app_i _ (by omega), rfl⟩, ?_⟩) | (refine ⟨x.Bits.map boolEl, ⟨app_b _ (by omega), rfl⟩, ?_⟩) | (refine And.intro ?_ ?_; · decide)))
  all_goals rfl
theorem m_cloneCall (x : XCall) (h : x.tot ≤ 1048576) : PureC Try.prog 25 [x.v] [x.v] := by
  refine pureC_of (Γ := lookT tbl) (il := ilist) tg dr Try.func25 rfl (by kernel_rfl) rfl (Nat.le_of_ble_eq_true rfl) ?_
  unfold XCall.tot at h
  (repeat' ((conv => whnf); first | refine br_i (fun _ => ?_) (fun _ => ?_) | (refine cur_leaf rfl rfl rfl ?_ ?_; · first | assumption | omega | exact hw ‹_›) | refine leaf_i rfl rfl ?_ | refine And.intro rfl ?_ | refine call_i (m_cloneReq x.Req h) ?_ | (refine Or.inl ?_; (conv => whnf); refine call_i (m_cloneReq x.Req h) ?_) | (refine And.intro ?_ ?_; · decide)))
  all_goals rfl
theorem s_l12CopyCall (x : XCall) (h : x.tot ≤ 1048576) : PureC Try.prog 29 [x.v] [x.v] := by
  refine pureC_of (Γ := lookT tbl) (il := ilist) tg dr Try.func29 rfl (by kernel_rfl) rfl (Nat.le_of_ble_eq_true rfl) ?_
  unfold XCall.tot at h
  (repeat' ((conv => whnf); first | refine br_i (fun _ => ?_) (fun _ => ?_) | (refine cur_leaf rfl rfl rfl ?_ ?_; · first | assumption | omega | exact hw ‹_›) | refine leaf_i rfl rfl ?_ | refine And.intro rfl ?_ | refine call_i (s_l10CopyReq x.Req h) ?_ | (refine Or.inl ?_; (conv => whnf); refine call_i (s_l10CopyReq x.Req h) ?_) | (refine And.intro ?_ ?_; · decide)))
  all_goals rfl

end Go.Proofs.Ytciiiandmpjndaa
