/- The fabric, first part: settings, places in a table. -/
import Derived.Test.YtknlfechpcimkaaGreatXRules
namespace Go.Proofs.YtknlfechpcimkaaGreat
open Go Go.Vi
set_option linter.unusedVariables false
set_option linter.unusedSimpArgs false
set_option maxRecDepth 100000
def configB (c : XConfig) : Bool := (inB c.Wait 1 100 && inB c.Tries 0 5) && rulesB c.Rules
theorem m_ConfigOk (c : XConfig) : PureC Tryz.prog 24 [c.v] [boolv (configB c)] := by
  refine pureC_of (Γ := lookT tbl) (il := ilist) tg dr Tryz.func24 rfl (by kernel_rfl) rfl (Nat.le_of_ble_eq_true rfl) ?_
  (repeat' ((conv => whnf); first | refine br_i (fun _ => ?_) (fun _ => ?_) | (refine cur_leaf rfl rfl rfl ?_ ?_; · first | assumption | omega | exact hw ‹_›) | refine leaf_i rfl rfl ?_ | refine And.intro rfl ?_ | refine call_i (m_wait _ _) ?_ | (refine Or.inl ?_; (conv => whnf); refine call_i (m_wait _ _) ?_) | refine call_i (m_RulesOk c.Rules) ?_ | (refine Or.inl ?_; (conv => whnf); refine call_i (m_RulesOk c.Rules) ?_) | (refine And.intro ?_ ?_; · decide)))
  all_goals (refine bool_leaf ?_; first | (simp_all [configB]; done) | (simp_all [configB]; omega))
theorem s_ConfigOk (c : XConfig) : PureC Tryz.prog 13 [c.v] [boolv (configB c)] := by
  refine pureC_of (Γ := lookT tbl) (il := ilist) tg dr Tryz.func13 rfl (by kernel_rfl) rfl (Nat.le_of_ble_eq_true rfl) ?_
  (repeat' ((conv => whnf); first | refine br_i (fun _ => ?_) (fun _ => ?_) | (refine cur_leaf rfl rfl rfl ?_ ?_; · first | assumption | omega | exact hw ‹_›) | refine leaf_i rfl rfl ?_ | refine And.intro rfl ?_ | refine call_i (s_in _ _ _) ?_ | (refine Or.inl ?_; (conv => whnf); refine call_i (s_in _ _ _) ?_) | refine call_i (s_RulesOk c.Rules) ?_ | (refine Or.inl ?_; (conv => whnf); refine call_i (s_RulesOk c.Rules) ?_) | (refine And.intro ?_ ?_; · decide)))
  all_goals (refine bool_leaf ?_; first | (simp_all [configB]; done) | (simp_all [configB]; omega))
theorem s_sameBits (l m : List Bool) : PureC Tryz.prog 72 [boolsV l, boolsV m] [boolv (decide (l = m))] := by
  refine pureC_fit ⟨_, Tryz.func72, by kernel_rfl, rfl⟩ fun hf => ?_
  have hl : l.length ≤ 9223372036854775807 := fits_len (hf (boolsV l) (by simp))
  refine pureC_of (Γ := lookT tbl) (il := ilist) tg dr Tryz.func72 rfl (by kernel_rfl) rfl (Nat.le_of_ble_eq_true rfl) ?_
  conv => whnf
  refine br_i (fun h => ?_) (fun h => ?_) <;> conv => whnf
  · refine leaf_i rfl rfl ?_
    have : l ≠ m := fun e => by subst e; simp at h
    simp [boolv, this]
  have hlen : l.length = m.length := by simp at h; omega
  refine loop_i (fun k : Nat => ⟨envL [(0, .c (.pv (boolsP l))), (1, .c (.pv (boolsP m))), (5, .c (.pv (.int .i64 k)))], resL [], 0, 26⟩) (fun k => k ≤ l.length ∧ l.take k = m.take k) (fun k => l.length - k) 0 ⟨Nat.zero_le _, rfl⟩ (le_mk [] rfl ⟨⟨rfl, rfl⟩, ⟨rfl, rfl⟩, ⟨rfl, rfl⟩, trivial⟩ trivial rfl) ?_
  intro k ⟨hk, hs⟩
  conv => whnf
  refine br_i (fun h => ?_) (fun h => ?_)
  · have hlt : k < l.length := by simpa using h
    have hlt2 : k < m.length := by omega
    conv => whnf
    refine ⟨_, idx_map l boolEl k hlt 1, ?_⟩
    conv => whnf
    refine ⟨_, idx_map m boolEl k hlt2 1, ?_⟩
    conv => whnf
    refine And.intro rfl ?_
    conv => whnf
    refine br_i (fun h => ?_) (fun h => ?_) <;> conv => whnf
    · refine leaf_i rfl rfl ?_
      have : l ≠ m := ne_of_get hlt hlt2 (by simpa using h)
      simp [boolv, this]
    · exact ⟨k + 1, ⟨⟨hlt, take_eq_succ hs hlt hlt2 (by simpa using h)⟩, by omega⟩, le_mk [] rfl ⟨⟨rfl, rfl⟩, ⟨rfl, rfl⟩, ⟨ctr (by omega), rfl⟩, trivial⟩ trivial rfl⟩
  · have hk : l.length ≤ k := by simpa using h
    conv => whnf
    refine leaf_i rfl rfl ?_
    have : l = m := take_eq_all hs hk hlen.symm
    simp [boolv, this]
theorem m_indexP (l : List XPend) (f : FuncId) (caps : List (List PV)) (p : XPend → Bool) (hp : ∀ x ∈ l, PureC Tryz.prog f (x.v :: caps.map .ptr) [boolv (!p x)]) : PureC Tryz.prog 55 [XPend.sV l, .clo f caps] [i64v (firstBad p l)] := by
  refine pureC_fit ⟨_, Tryz.func55, by kernel_rfl, rfl⟩ fun hf => ?_
  have hl : l.length ≤ 9223372036854775807 := fits_len (hf (XPend.sV l) (by simp))
  refine pureC_of (Γ := lookT tbl) (il := ilist) tg dr Tryz.func55 rfl (by kernel_rfl) rfl (Nat.le_of_ble_eq_true rfl) ?_
  conv => whnf
  refine loop_i (fun k : Nat => ⟨envL [(0, .c (.pv (XPend.sP l))), (1, .c (.clo f caps)), (7, .c (.pv (.int .i64 l.length))), (8, .c (.pv (.int .i64 k)))], resL [], 0, 19⟩) (fun k => k ≤ l.length ∧ (l.take k).all p = true) (fun k => l.length - k) 0 ⟨Nat.zero_le _, rfl⟩ (le_mk [] rfl ⟨⟨rfl, rfl⟩, ⟨rfl, rfl⟩, ⟨i64_eq (by rw [List.length_map]), rfl⟩, ⟨rfl, rfl⟩, trivial⟩ trivial rfl) ?_
  intro k ⟨hk, hs⟩
  conv => whnf
  refine br_i (fun h => ?_) (fun h => ?_)
  · have hlt : k < l.length := by simpa using h
    conv => whnf
    refine ⟨_, idx_map l XPend.ps k hlt 13, ?_⟩
    conv => whnf
    refine call_i (hp l[k] (List.getElem_mem hlt)) ?_
    conv => whnf
    refine br_i (fun h => ?_) (fun h => ?_) <;> conv => whnf
    · refine leaf_i rfl rfl ?_
      rw [firstBad_at hs hlt (by simpa using h)]
      rfl
    · exact ⟨k + 1, ⟨⟨hlt, all_succ hs hlt (by simpa using h)⟩, by omega⟩, le_mk [] rfl ⟨⟨rfl, rfl⟩, ⟨rfl, rfl⟩, ⟨rfl, rfl⟩, ⟨ctr (by omega), rfl⟩, trivial⟩ trivial rfl⟩
  · have hk : l.length ≤ k := by simpa using h
    conv => whnf
    refine leaf_i rfl rfl ?_
    rw [firstBad_none (all_end hs hk)]
    rfl
theorem s_sameReq (x y : XReq) : PureC Tryz.prog 43 [x.v, y.v] [boolv (decide (x = y))] := by
  refine pureC_of (Γ := lookT tbl) (il := ilist) tg dr Tryz.func43 rfl (by kernel_rfl) rfl (Nat.le_of_ble_eq_true rfl) ?_
  (repeat' ((conv => whnf); first | refine br_i (fun _ => ?_) (fun _ => ?_) | (refine cur_leaf rfl rfl rfl ?_ ?_; · first | assumption | omega | exact hw ‹_›) | refine leaf_i rfl rfl ?_ | refine And.intro rfl ?_ | refine call_i (s_sameW x.Words y.Words) ?_ | (refine Or.inl ?_; (conv => whnf); refine call_i (s_sameW x.Words y.Words) ?_) | refine call_i (s_sameBits x.Bits y.Bits) ?_ | (refine Or.inl ?_; (conv => whnf); refine call_i (s_sameBits x.Bits y.Bits) ?_) | (refine And.intro ?_ ?_; · decide)))
  all_goals (cases x; cases y; (refine bool_leaf ?_; first | (simp_all []; done) | (simp_all []; omega)))
def findI (t : XTable) (id : Int) : Int := firstBad (fun p : XPend => !decide (p.Id = id)) t.List_
theorem find_cases (t : XTable) (id : Int) : findI t id = -1 ∨ ∃ k : Nat, ∃ h : k < t.List_.length, findI t id = k := by
  unfold findI firstBad
  split
  · exact .inl rfl
  · rename_i h
    refine .inr ⟨_, List.findIdx_lt_length_of_exists ?_, rfl⟩
    simp at h
    simpa using h
theorem m_isOf1 (p : XPend) (c : XCall) : PureC Tryz.prog 56 [p.v, .ptr c.ps] [boolv (!(!decide (p.Id = c.Id)))] := by
  refine pureC_of (Γ := lookT tbl) (il := ilist) tg dr Tryz.func56 rfl (by kernel_rfl) rfl (Nat.le_of_ble_eq_true rfl) ?_
  (repeat' ((conv => whnf); first | refine br_i (fun _ => ?_) (fun _ => ?_) | (refine cur_leaf rfl rfl rfl ?_ ?_; · first | assumption | omega | exact hw ‹_›) | refine leaf_i rfl rfl ?_ | refine And.intro rfl ?_ | (refine And.intro ?_ ?_; · decide)))
  all_goals (refine bool_leaf ?_; first | (simp_all []; done) | (simp_all []; omega))
theorem s_Find (t : XTable) (id : Int) : PureC Tryz.prog 42 [t.v, i64v id] [i64v (findI t id)] := by
  refine pureC_fit ⟨_, Tryz.func42, by kernel_rfl, rfl⟩ fun hf => ?_
  have hl : t.List_.length ≤ 9223372036854775807 := by
    have := hf t.v (by simp) (XPend.sP t.List_) (by simp [XTable.ps])
    cases this with
    | sl sz xs h1 h2 => simpa using h1
  clear hf
  refine pureC_of (Γ := lookT tbl) (il := ilist) tg dr Tryz.func42 rfl (by kernel_rfl) rfl (Nat.le_of_ble_eq_true rfl) ?_
  conv => whnf
  refine loop_i (fun k : Nat => ⟨envL [(1, .c (.pv (.int .i64 id))), (2, .c (.ptr 0 0)), (5, .c (.pv (.int .i64 k)))], resL [(0, .box (t.ps.map .pv))], 1, 22⟩) (fun k => k ≤ t.List_.length ∧ (t.List_.take k).all (fun p : XPend => !decide (p.Id = id)) = true) (fun k => t.List_.length - k) 0 ⟨Nat.zero_le _, rfl⟩ (le_mk [(0, _)] rfl ⟨⟨rfl, rfl⟩, ⟨rfl, rfl⟩, ⟨rfl, rfl⟩, trivial⟩ ⟨⟨rfl, rfl⟩, trivial⟩ rfl) ?_
  intro k ⟨hk, hs⟩
  conv => whnf
  refine br_i (fun h => ?_) (fun h => ?_)
  · have hlt : k < t.List_.length := by simpa using h
    conv => whnf
    refine ⟨_, idx_map t.List_ XPend.ps k hlt 13, ?_⟩
    conv => whnf
    refine br_i (fun h => ?_) (fun h => ?_) <;> conv => whnf
    · refine leaf_i rfl rfl ?_
      unfold findI
      rw [firstBad_at hs hlt (by simpa using h)]
      rfl
    · exact ⟨k + 1, ⟨⟨hlt, all_succ hs hlt (by simpa using h)⟩, by omega⟩, le_mk [(0, _)] rfl ⟨⟨rfl, rfl⟩, ⟨rfl, rfl⟩, ⟨ctr (by omega), rfl⟩, trivial⟩ ⟨⟨rfl, rfl⟩, trivial⟩ rfl⟩
  · have hk : t.List_.length ≤ k := by simpa using h
    conv => whnf
    refine leaf_i rfl rfl ?_
    rw [show findI t id = -1 from firstBad_none (all_end hs hk)]
    rfl
def fits0 (p : XPend) (i : Int) (c : XCall) : Bool :=
  if c.Part ≥ p.Parts.length then false else if p.Has.getD c.Part.toNat false then false else
  decide ((p.Parts.getD c.Part.toNat XPart.zero).Port = i) && decide ((p.Parts.getD c.Part.toNat XPart.zero).Unit = c.Unit) && decide ((p.Parts.getD c.Part.toNat XPart.zero).Req = c.Req)
def fitsF (t : XTable) (i : Int) (c : XCall) : Bool := if findI t c.Id < 0 then false else fits0 (t.List_.getD (findI t c.Id).toNat XPend.zero) i c
theorem pend_len {t : XTable} (h : tableB t = true) {k : Nat} (hk : k < t.List_.length) : t.List_[k].Has.length = t.List_[k].Parts.length := by
  simp only [tableB, Bool.and_eq_true, List.all_eq_true] at h
  have h1 := h.2 k (List.mem_range.2 hk)
  simp only [rowB, pendB, headB, Bool.and_eq_true] at h1
  have h2 := h1.1.1.1.1.1.2
  have hg : t.List_.getD k XPend.zero = t.List_[k] := by simp [List.getD, List.getElem?_eq_getElem hk]
  rw [hg] at h2
  have h3 := of_decide_eq_true h2
  omega
theorem fits_at {t : XTable} {i : Int} {c : XCall} {k : Nat} (h : k < t.List_.length) (hf : findI t c.Id = k) : fitsF t i c = fits0 t.List_[k] i c := by
  unfold fitsF
  rw [hf]
  simp [List.getD, List.getElem?_eq_getElem h]
theorem m_isOf (t : XTable) (i : Int) (c : XCall) (hT : tableB t = true) (hc : 0 ≤ c.Part) : PureC Tryz.prog 29 [t.v, i64v i, c.v] [boolv (fitsF t i c)] := by
  refine pureC_of (Γ := lookT tbl) (il := ilist) tg dr Tryz.func29 rfl (by kernel_rfl) rfl (Nat.le_of_ble_eq_true rfl) ?_
  have hI := m_indexP t.List_ 56 [c.ps] (fun p => !decide (p.Id = c.Id)) (fun x _ => m_isOf1 x c)
  change PureC _ _ _ [i64v (findI t c.Id)] at hI
  rcases find_cases t c.Id with h | ⟨k, hk, h⟩
  · rw [h] at hI
    have hF : fitsF t i c = false := by unfold fitsF; rw [h]; rfl
    (repeat' ((conv => whnf); first | refine br_i (fun _ => ?_) (fun _ => ?_) | (refine cur_leaf rfl rfl rfl ?_ ?_; · first | assumption | omega | exact hw ‹_›) | refine leaf_i rfl rfl ?_ | refine And.intro rfl ?_ | refine call_i (hI) ?_ | (refine Or.inl ?_; (conv => whnf); refine call_i (hI) ?_) | (refine And.intro ?_ ?_; · decide)))
    rw [hF]; rfl
  · have hF := fits_at (i := i) hk h
    have hL := pend_len hT hk
    rw [h] at hI
    have ix := idx_map t.List_ XPend.ps k hk 13
    generalize t.List_[k] = p at *
    clear h hT
    rw [hF]
    clear hF
    obtain ⟨I, Pt, U, Q⟩ := c
    dsimp only at hc hI
    obtain ⟨m, rfl⟩ := Int.eq_ofNat_of_zero_le hc
    by_cases hm : m < p.Parts.length
    · have hm2 : m < p.Has.length := by omega
      have ih := idx_map p.Has boolEl m hm2 1
      have ip := idx_map p.Parts XPart.ps m hm 8
      have e1 : p.Has.getD m false = p.Has[m] := by simp [List.getD, List.getElem?_eq_getElem hm2]
      have e2 : p.Parts.getD m XPart.zero = p.Parts[m] := by simp [List.getD, List.getElem?_eq_getElem hm]
      unfold fits0
      dsimp only
      rw [Int.toNat_natCast, e1, e2, if_neg (by omega)]
      generalize p.Has[m] = H at *
      generalize p.Parts[m] = q at *
      have hq := m_same q.Req Q
      (repeat' ((conv => whnf); first | refine br_i (fun _ => ?_) (fun _ => ?_) | (refine cur_leaf rfl rfl rfl ?_ ?_; · first | assumption | omega | exact hw ‹_›) | refine leaf_i rfl rfl ?_ | refine And.intro rfl ?_ | refine call_i (hI) ?_ | (refine Or.inl ?_; (conv => whnf); refine call_i (hI) ?_) | (refine ⟨_, ix, ?_⟩) | (refine ⟨_, ih, ?_⟩) | (refine ⟨_, ip, ?_⟩) | refine call_i (hq) ?_ | (refine Or.inl ?_; (conv => whnf); refine call_i (hq) ?_) | (refine And.intro ?_ ?_; · decide)))
      all_goals (clear hI ix ih ip e1 e2 hq; first | (exfalso; simp at *; omega) | (refine bool_leaf ?_; simp_all))
    · unfold fits0
      dsimp only
      rw [if_pos (by omega)]
      (repeat' ((conv => whnf); first | refine br_i (fun _ => ?_) (fun _ => ?_) | (refine cur_leaf rfl rfl rfl ?_ ?_; · first | assumption | omega | exact hw ‹_›) | refine leaf_i rfl rfl ?_ | refine And.intro rfl ?_ | refine call_i (hI) ?_ | (refine Or.inl ?_; (conv => whnf); refine call_i (hI) ?_) | (refine ⟨_, ix, ?_⟩) | (refine And.intro ?_ ?_; · decide)))
      all_goals first | rfl | (exfalso; clear hI ix; simp at *; omega)
theorem s_Fits (x : XFabric) (t : XTable) (ht : x.Open = t) (i : Int) (c : XCall) (hT : tableB t = true) (hc : 0 ≤ c.Part) : PureC Tryz.prog 18 [x.v, i64v i, c.v] [boolv (fitsF t i c)] := by
  refine pureC_of (Γ := lookT tbl) (il := ilist) tg dr Tryz.func18 rfl (by kernel_rfl) rfl (Nat.le_of_ble_eq_true rfl) ?_
  obtain ⟨x1, x2, x3, x4, x5, x6, x7, x8⟩ := x
  dsimp only at ht
  subst ht
  have hI := s_Find x3 c.Id
  rcases find_cases x3 c.Id with h | ⟨k, hk, h⟩
  · rw [h] at hI
    have hF : fitsF x3 i c = false := by unfold fitsF; rw [h]; rfl
    (repeat' ((conv => whnf); first | refine br_i (fun _ => ?_) (fun _ => ?_) | (refine cur_leaf rfl rfl rfl ?_ ?_; · first | assumption | omega | exact hw ‹_›) | refine leaf_i rfl rfl ?_ | refine And.intro rfl ?_ | refine call_i (hI) ?_ | (refine Or.inl ?_; (conv => whnf); refine call_i (hI) ?_) | (refine And.intro ?_ ?_; · decide)))
    rw [hF]; rfl
  · have hF := fits_at (i := i) hk h
    have hL := pend_len hT hk
    rw [h] at hI
    have ix := idx_map x3.List_ XPend.ps k hk 13
    generalize x3.List_[k] = p at *
    clear h hT
    rw [hF]
    clear hF
    obtain ⟨I, Pt, U, Q⟩ := c
    dsimp only at hc hI
    obtain ⟨m, rfl⟩ := Int.eq_ofNat_of_zero_le hc
    by_cases hm : m < p.Parts.length
    · have hm2 : m < p.Has.length := by omega
      have ih := idx_map p.Has boolEl m hm2 1
      have ip := idx_map p.Parts XPart.ps m hm 8
      have e1 : p.Has.getD m false = p.Has[m] := by simp [List.getD, List.getElem?_eq_getElem hm2]
      have e2 : p.Parts.getD m XPart.zero = p.Parts[m] := by simp [List.getD, List.getElem?_eq_getElem hm]
      unfold fits0
      dsimp only
      rw [Int.toNat_natCast, e1, e2, if_neg (by omega)]
      generalize p.Has[m] = H at *
      generalize p.Parts[m] = q at *
      have hq := s_sameReq q.Req Q
      (repeat' ((conv => whnf); first | refine br_i (fun _ => ?_) (fun _ => ?_) | (refine cur_leaf rfl rfl rfl ?_ ?_; · first | assumption | omega | exact hw ‹_›) | refine leaf_i rfl rfl ?_ | refine And.intro rfl ?_ | refine call_i (hI) ?_ | (refine Or.inl ?_; (conv => whnf); refine call_i (hI) ?_) | (refine ⟨_, ix, ?_⟩) | (refine ⟨_, ih, ?_⟩) | (refine ⟨_, ip, ?_⟩) | refine call_i (hq) ?_ | (refine Or.inl ?_; (conv => whnf); refine call_i (hq) ?_) | (refine And.intro ?_ ?_; · decide)))
      all_goals (clear hI ix ih ip e1 e2 hq; first | (exfalso; simp at *; omega) | (refine bool_leaf ?_; simp_all))
    · unfold fits0
      dsimp only
      rw [if_pos (by omega)]
      (repeat' ((conv => whnf); first | refine br_i (fun _ => ?_) (fun _ => ?_) | (refine cur_leaf rfl rfl rfl ?_ ?_; · first | assumption | omega | exact hw ‹_›) | refine leaf_i rfl rfl ?_ | refine And.intro rfl ?_ | refine call_i (hI) ?_ | (refine Or.inl ?_; (conv => whnf); refine call_i (hI) ?_) | (refine ⟨_, ix, ?_⟩) | (refine And.intro ?_ ?_; · decide)))
      all_goals first | rfl | (exfalso; clear hI ix; simp at *; omega)

end Go.Proofs.YtknlfechpcimkaaGreat
