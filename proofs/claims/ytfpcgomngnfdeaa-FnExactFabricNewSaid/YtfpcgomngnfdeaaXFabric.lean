/- Settings and the new fabric: both packages' functions, and the law. -/
import Derived.Test.YtfpcgomngnfdeaaXLineNew
namespace Go.Proofs.Ytfpcgomngnfdeaa
open Go Go.Vi
set_option linter.unusedVariables false
set_option linter.unusedSimpArgs false
set_option maxRecDepth 100000
def configB (c : XConfig) : Bool := (inB c.Wait 1 100 && inB c.Tries 0 5) && rulesB c.Rules
theorem m_ConfigOk (c : XConfig) : PureC Try.prog 17 [c.v] [boolv (configB c)] := by
  refine pureC_of (Γ := lookT tbl) (il := ilist) tg dr Try.func17 rfl (by kernel_rfl) rfl (Nat.le_of_ble_eq_true rfl) ?_
  (repeat' ((conv => whnf); first | refine br_i (fun _ => ?_) (fun _ => ?_) | (refine cur_leaf rfl rfl rfl ?_ ?_; · first | assumption | omega | exact hw ‹_›) | refine leaf_i rfl rfl ?_ | refine And.intro rfl ?_ | refine call_i (m_wait _ _) ?_ | (refine Or.inl ?_; (conv => whnf); refine call_i (m_wait _ _) ?_) | refine call_i (m_RulesOk c.Rules) ?_ | (refine Or.inl ?_; (conv => whnf); refine call_i (m_RulesOk c.Rules) ?_) | (refine And.intro ?_ ?_; · decide)))
  all_goals (refine bool_leaf ?_; first | (simp_all [configB]; done) | (simp_all [configB]; omega))
theorem s_ConfigOk (c : XConfig) : PureC Try.prog 14 [c.v] [boolv (configB c)] := by
  refine pureC_of (Γ := lookT tbl) (il := ilist) tg dr Try.func14 rfl (by kernel_rfl) rfl (Nat.le_of_ble_eq_true rfl) ?_
  (repeat' ((conv => whnf); first | refine br_i (fun _ => ?_) (fun _ => ?_) | (refine cur_leaf rfl rfl rfl ?_ ?_; · first | assumption | omega | exact hw ‹_›) | refine leaf_i rfl rfl ?_ | refine And.intro rfl ?_ | refine call_i (s_in _ _ _) ?_ | (refine Or.inl ?_; (conv => whnf); refine call_i (s_in _ _ _) ?_) | refine call_i (s_RulesOk c.Rules) ?_ | (refine Or.inl ?_; (conv => whnf); refine call_i (s_RulesOk c.Rules) ?_) | (refine And.intro ?_ ?_; · decide)))
  all_goals (refine bool_leaf ?_; first | (simp_all [configB]; done) | (simp_all [configB]; omega))
theorem flat_rules (l : List XRule) : Flat (l.map XRule.ps) := by
  intro el h p hp
  obtain ⟨r, _, rfl⟩ := List.mem_map.1 h
  simp [XRule.ps] at hp
  rcases hp with rfl | rfl | rfl | rfl | rfl | rfl | rfl <;> rfl
theorem m_CloneR (l : List XRule) (hl : l.length ≤ 1048576) : PureC Try.prog 34 [XRule.sV l] [XRule.sV l] := by
  refine pureC_of (Γ := lookT tbl) (il := ilist) tg dr Try.func34 rfl (by kernel_rfl) rfl (Nat.le_of_ble_eq_true rfl) ?_
  conv => whnf
  refine ⟨⟨_, _, rfl, rfl⟩, fun b hb => ?_⟩
  conv => whnf
  refine br_i (fun h => ?_) (fun h => ?_) <;> conv => whnf
  · have h1 := hb (by simpa using h)
    simp at h1
    subst h1
    exact leaf_i rfl rfl rfl
  · refine ⟨⟨rfl, flat_rules l⟩, ?_⟩
    conv => whnf
    refine ⟨l.map XRule.ps, ⟨by show (0 + (l.map XRule.ps).length) * 56 ≤ 140737488355328; rw [List.length_map]; omega, rfl⟩, ?_⟩
    conv => whnf
    exact leaf_i rfl rfl rfl
theorem m_cloneConfig (c : XConfig) (h : c.tot ≤ 1048576) : PureC Try.prog 18 [c.v] [c.v] := by
  refine pureC_of (Γ := lookT tbl) (il := ilist) tg dr Try.func18 rfl (by kernel_rfl) rfl (Nat.le_of_ble_eq_true rfl) ?_
  (repeat' ((conv => whnf); first | refine br_i (fun _ => ?_) (fun _ => ?_) | (refine cur_leaf rfl rfl rfl ?_ ?_; · first | assumption | omega | exact hw ‹_›) | refine leaf_i rfl rfl ?_ | refine And.intro rfl ?_ | refine call_i (m_CloneR c.Rules h) ?_ | (refine Or.inl ?_; (conv => whnf); refine call_i (m_CloneR c.Rules h) ?_) | (refine And.intro ?_ ?_; · decide)))
  all_goals rfl
def fabNew (c : XConfig) : XFabric := if configB c then { XFabric.zero with Set := c, Lines := List.replicate 6 (lineNew c.Wait c.Tries) } else XFabric.zero
theorem rep_app (x : XLine) (k : Nat) (hk : k < 6) : (((List.replicate k x).map XLine.ps).length + 1) * 184 ≤ 140737488355328 ∧ (List.replicate (k + 1) x).map XLine.ps = (List.replicate k x).map XLine.ps ++ [x.ps] := by
  refine ⟨?_, by rw [List.replicate_succ', List.map_append]; rfl⟩
  rw [List.length_map, List.length_replicate]
  omega
theorem m_FabricNew (c : XConfig) (h : c.tot ≤ 1048576) : PureC Try.prog 7 [c.v] [(fabNew c).v] := by
  refine pureC_of (Γ := lookT tbl) (il := ilist) tg dr Try.func7 rfl (by kernel_rfl) rfl (Nat.le_of_ble_eq_true rfl) ?_
  have hk := m_ConfigOk c
  have hc := m_cloneConfig c h
  have hl := m_LineNew c.Wait c.Tries
  cases hP : configB c with
  | false =>
    rw [hP] at hk
    (repeat' ((conv => whnf); first | refine br_i (fun _ => ?_) (fun _ => ?_) | (refine cur_leaf rfl rfl rfl ?_ ?_; · first | assumption | omega | exact hw ‹_›) | refine leaf_i rfl rfl ?_ | refine And.intro rfl ?_ | refine call_i (hk) ?_ | (refine Or.inl ?_; (conv => whnf); refine call_i (hk) ?_) | (refine And.intro ?_ ?_; · decide)))
    rw [show fabNew c = XFabric.zero by simp [fabNew, hP]]
    rfl
  | true =>
    rw [hP] at hk
    (repeat' ((conv => whnf); first | refine br_i (fun _ => ?_) (fun _ => ?_) | (refine cur_leaf rfl rfl rfl ?_ ?_; · first | assumption | omega | exact hw ‹_›) | refine leaf_i rfl rfl ?_ | refine And.intro rfl ?_ | refine call_i (hk) ?_ | (refine Or.inl ?_; (conv => whnf); refine call_i (hk) ?_) | refine call_i (hc) ?_ | (refine Or.inl ?_; (conv => whnf); refine call_i (hc) ?_) | (refine And.intro ?_ ?_; · decide)))
    conv => whnf
    refine loop_i (fun k : Nat => ⟨envL [(1, .c (.ptr 0 0)), (2, .c (.ptr 1 0)), (3, .c (.ptr 2 0)), (11, .c (.pv (.int .i64 k)))], resL [(0, .box (c.ps.map .pv)), (1, .box [.pv (.int .i64 0), .pv (.int .i64 0), .pv (.int .i64 0), .nil 7, .pv (.int .i64 0), .nil 13, .nil 17, .pv (.int .i64 0), .pv (.int .i64 0), .pv (.int .i64 0), .pv (.int .i64 0)]), (2, .box [.pv (.int .i64 0), .pv (.int .i64 c.Wait), .pv (.int .i64 c.Tries), .row 3, .pv (.int .i64 0), .nil 13, .row 4, .pv (.int .i64 0), .pv (.int .i64 0), .pv (.int .i64 0), .pv (.int .i64 0)]), (3, .row true 7 (c.Rules.map XRule.ps)), (4, .row true 17 ((List.replicate k (lineNew c.Wait c.Tries)).map XLine.ps))], 5, 25⟩) (fun k => k ≤ 6) (fun k => 6 - k) 0 (Nat.zero_le _)
      ((le_rowE 3 6 rfl rfl rfl).trans (le_mk [(0, _), (1, _), (2, _), (3, _), (4, _)] rfl ⟨⟨rfl, rfl⟩, ⟨rfl, rfl⟩, ⟨rfl, rfl⟩, ⟨rfl, rfl⟩, trivial⟩ ⟨⟨rfl, rfl⟩, ⟨rfl, rfl⟩, ⟨rfl, rfl⟩, ⟨rfl, rfl⟩, ⟨rfl, rfl⟩, trivial⟩ rfl)) ?_
    intro k hk
    conv => whnf
    refine br_i (fun h => ?_) (fun h => ?_)
    · have hlt : k < 6 := by simp at h; omega
      conv => whnf
      refine call_i hl ?_
      conv => whnf
      refine And.intro rfl ?_
      conv => whnf
      refine ⟨_, rep_app _ k hlt, ?_⟩
      conv => whnf
      refine And.intro rfl ?_
      conv => whnf
      exact ⟨k + 1, ⟨hlt, by show 6 - (k + 1) < 6 - k; omega⟩, le_mk [(0, _), (1, _), (2, _), (3, _), (4, _)] rfl ⟨⟨rfl, rfl⟩, ⟨rfl, rfl⟩, ⟨rfl, rfl⟩, ⟨ctr (by omega), rfl⟩, trivial⟩ ⟨⟨rfl, rfl⟩, ⟨rfl, rfl⟩, ⟨rfl, rfl⟩, ⟨rfl, rfl⟩, ⟨rfl, rfl⟩, trivial⟩ rfl⟩
    · have hk6 : k = 6 := by simp at h; omega
      subst hk6
      conv => whnf
      refine leaf_i rfl rfl ?_
      rw [show fabNew c = { XFabric.zero with Set := c, Lines := List.replicate 6 (lineNew c.Wait c.Tries) } by simp [fabNew, hP]]
      rfl
theorem flR (l : List XRule) : (7 = 7) ∧ Flat (l.map XRule.ps) := ⟨rfl, flat_rules l⟩
theorem aR (l : List XRule) (h : l.length ≤ 1048576) : (0 + (l.map XRule.ps).length) * 56 ≤ 140737488355328 ∧ l.map XRule.ps = [] ++ l.map XRule.ps := ⟨by rw [List.length_map]; omega, rfl⟩
theorem s_FabricNew (c : XConfig) (h : c.tot ≤ 1048576) : PureC Try.prog 5 [c.v] [(fabNew c).v] := by
  refine pureC_of (Γ := lookT tbl) (il := ilist) tg dr Try.func5 rfl (by kernel_rfl) rfl (Nat.le_of_ble_eq_true rfl) ?_
  have hk := s_ConfigOk c
  have hl := s_LineNew c.Wait c.Tries
  have hc : c.Rules.length ≤ 1048576 := h
  cases hP : configB c with
  | false =>
    rw [hP] at hk
    (repeat' ((conv => whnf); first | refine br_i (fun _ => ?_) (fun _ => ?_) | (refine cur_leaf rfl rfl rfl ?_ ?_; · first | assumption | omega | exact hw ‹_›) | refine leaf_i rfl rfl ?_ | refine And.intro rfl ?_ | refine call_i (hk) ?_ | (refine Or.inl ?_; (conv => whnf); refine call_i (hk) ?_) | (refine And.intro ?_ ?_; · decide)))
    rw [show fabNew c = XFabric.zero by simp [fabNew, hP]]
    rfl
  | true =>
    rw [hP] at hk
    (repeat' ((conv => whnf); first | refine br_i (fun _ => ?_) (fun _ => ?_) | (refine cur_leaf rfl rfl rfl ?_ ?_; · first | assumption | omega | exact hw ‹_›) | refine leaf_i rfl rfl ?_ | refine And.intro rfl ?_ | refine call_i (hk) ?_ | (refine Or.inl ?_; (conv => whnf); refine call_i (hk) ?_) | (refine And.intro (flR c.Rules) ?_) | (refine Exists.intro (c.Rules.map XRule.ps) (And.intro (aR c.Rules hc) ?_)) | (refine And.intro ?_ ?_; · decide)))
    conv => whnf
    refine loop_i (fun k : Nat => ⟨envL [(1, .c (.ptr 0 0)), (2, .c (.ptr 1 0)), (3, .c (.ptr 2 0)), (4, .c (.pv (.int .i64 k)))], resL [(0, .box (c.ps.map .pv)), (1, .box [.pv (.int .i64 0), .pv (.int .i64 0), .pv (.int .i64 0), .nil 7, .pv (.int .i64 0), .nil 13, .nil 17, .pv (.int .i64 0), .pv (.int .i64 0), .pv (.int .i64 0), .pv (.int .i64 0)]), (2, .box [.pv (.int .i64 0), .pv (.int .i64 c.Wait), .pv (.int .i64 c.Tries), .row 3, .pv (.int .i64 0), .nil 13, .row 4, .pv (.int .i64 0), .pv (.int .i64 0), .pv (.int .i64 0), .pv (.int .i64 0)]), (3, .row true 7 (c.Rules.map XRule.ps)), (4, .row true 17 ((List.replicate k (lineNew c.Wait c.Tries)).map XLine.ps))], 5, 34⟩) (fun k => k ≤ 6) (fun k => 6 - k) 0 (Nat.zero_le _)
      ((le_rowE 3 6 rfl rfl rfl).trans (le_mk [(0, _), (1, _), (2, _), (3, _), (4, _)] rfl ⟨⟨rfl, rfl⟩, ⟨rfl, rfl⟩, ⟨rfl, rfl⟩, ⟨rfl, rfl⟩, trivial⟩ ⟨⟨rfl, rfl⟩, ⟨rfl, rfl⟩, ⟨rfl, rfl⟩, ⟨rfl, rfl⟩, ⟨rfl, rfl⟩, trivial⟩ rfl)) ?_
    intro k hk
    conv => whnf
    refine br_i (fun h => ?_) (fun h => ?_)
    · have hlt : k < 6 := by simp at h; omega
      conv => whnf
      refine call_i hl ?_
      conv => whnf
      refine And.intro rfl ?_
      conv => whnf
      refine ⟨_, rep_app _ k hlt, ?_⟩
      conv => whnf
      refine And.intro rfl ?_
      conv => whnf
      exact ⟨k + 1, ⟨hlt, by show 6 - (k + 1) < 6 - k; omega⟩, le_mk [(0, _), (1, _), (2, _), (3, _), (4, _)] rfl ⟨⟨rfl, rfl⟩, ⟨rfl, rfl⟩, ⟨rfl, rfl⟩, ⟨ctr (by omega), rfl⟩, trivial⟩ ⟨⟨rfl, rfl⟩, ⟨rfl, rfl⟩, ⟨rfl, rfl⟩, ⟨rfl, rfl⟩, ⟨rfl, rfl⟩, trivial⟩ rfl⟩
    · have hk6 : k = 6 := by simp at h; omega
      subst hk6
      conv => whnf
      refine leaf_i rfl rfl ?_
      rw [show fabNew c = { XFabric.zero with Set := c, Lines := List.replicate 6 (lineNew c.Wait c.Tries) } by simp [fabNew, hP]]
      rfl
theorem fab_sc (c : XConfig) : XFabric.sc (fabNew c) ≤ 100 * c.tot + 1000 := by
  unfold fabNew
  have h1 : ∀ l : List XRule, sumF XRule.mc l = 7 * l.length := by
    intro l
    induction l with
    | nil => rfl
    | cons a l ih => simp [sumF, ih, XRule.mc]; omega
  split
  · have h2 : sumF XLine.mc (List.replicate 6 (lineNew c.Wait c.Tries)) ≤ 6 * 20 := by
      have h3 : XLine.mc (lineNew c.Wait c.Tries) ≤ 20 := by
        unfold lineNew
        split <;> (simp [XLine.mc, XLine.zero, XCall.zero, XReq.zero, sumF])
      simp [sumF, List.replicate]
      omega
    have h4 : c.tot = c.Rules.length := rfl
    simp only [XFabric.sc, XFabric.zero, XTable.zero, sumF, h1]
    omega
  · simp [XFabric.sc, XFabric.zero, XTable.zero, XConfig.zero, sumF]
theorem law_FnExactFabricNew (x : XConfig) (_ : x.Ok) : PureC Try.prog 3 [x.v] [boolv true] := by
  refine pureC_deep (Γ := lookT tbl) (il := ilist) tg drD Try.func3 rfl (by kernel_rfl) rfl (Nat.le_of_ble_eq_true rfl) rfl ?_
  conv => whnf
  refine Or.inl ?_
  conv => whnf
  refine call_i (szConfig x 1048576 (by decide) (by decide)) ?_
  conv => whnf
  refine br_i (fun h => ?_) (fun h => ?_)
  · conv => whnf
  have ht := sub_nn (dge h)
  clear h
  have h1 : x.tot ≤ 1048576 := by omega
  have hs := s_FabricNew x h1
  have hm := m_FabricNew x h1
  have e1 : PureC Try.prog 9 [x.v, x.v] [boolv true] := by simpa using eqConfig x x
  have hsz := fab_sc x
  have hx : x.sc ≤ 7 * x.tot := by
    have h2 : ∀ l : List XRule, sumF XRule.mc l = 7 * l.length := by
      intro l
      induction l with
      | nil => rfl
      | cons a l ih => simp [sumF, ih, XRule.mc]; omega
    have h4 : x.tot = x.Rules.length := rfl
    simp only [XConfig.sc, h2]
    omega
  generalize fabNew x = g at *
  have e3 : PureC Try.prog 8 [g.v, g.v] [boolv true] := by simpa using eqFabric g g
  obtain ⟨a1, A1⟩ := mkConfig x 1 (by decide) (by omega)
  obtain ⟨c1, c2, c3, C1, C2⟩ := mkFabric g 1 (by decide) (by omega)
  (repeat' ((conv => whnf); first | exact rfl | (refine br_i ?_ ?_; (· (intro h; exfalso; first | (simp at h; done) | (have := dlt h; omega))); intro _) | (refine br_i ?_ ?_; rotate_left; (· (intro h; exfalso; simp at h; done)); intro _) | refine br_i (fun _ => ?_) (fun _ => ?_) | refine And.intro rfl ?_ | (refine Or.inl ?_; (conv => whnf); refine call_i (hs) ?_) | (refine Or.inl ?_; (conv => whnf); refine call_i (hm) ?_) | (refine Or.inl ?_; (conv => whnf); refine call_i (toConfig x h1) ?_) | (refine Or.inl ?_; (conv => whnf); refine call_i (e1) ?_) | (refine Or.inl ?_; (conv => whnf); refine call_i (e3) ?_) | refine mark_i A1.1 rfl ?_ | refine mark_i C1 rfl ?_ | (refine Or.inl ?_; (conv => whnf); refine call_i (C2) ?_) | (refine And.intro ?_ ?_; · decide)); all_goals (try (conv => whnf)))

end Go.Proofs.Ytfpcgomngnfdeaa
