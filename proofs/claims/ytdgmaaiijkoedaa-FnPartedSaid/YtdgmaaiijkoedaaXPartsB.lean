/- Parts of a question that reads and writes; the law. -/
import Derived.Test.YtdgmaaiijkoedaaXPartsL
namespace Go.Proofs.Ytdgmaaiijkoedaa
open Go Go.Vi
set_option linter.unusedVariables false
set_option linter.unusedSimpArgs false
set_option maxRecDepth 100000
theorem at_window {l : List XRule} (h : rulesB l = true) {k : Nat} (hk : k < l.length) {u s p : Int} (hh : hitB u s p l[k] = true) : ruleAt l u s p = k := by
  rcases ruleAt_cases l u s p with ⟨_, hn⟩ | ⟨j, hj, hr, hhit, hmin⟩
  · rw [hn k hk] at hh; cases hh
  · rw [hr]
    rcases Nat.lt_trichotomy j k with hlt | he | hgt
    · have hc := (rules_get h hk).2 j hlt
      have a := hit_facts hhit
      have b := hit_facts hh
      simp [clash] at hc
      omega
    · rw [he]
    · rw [hmin k hgt] at hh; cases hh
def oneF (l : List XRule) (u a n : Int) : Int := if (List.range n.toNat).all (fun i => decide (ruleAt l u 2 (a + (i : Nat)) = ruleAt l u 2 a)) then ruleAt l u 2 a else -1
theorem oneF_none {l : List XRule} {u a n : Int} (h : ruleAt l u 2 a = -1) : oneF l u a n = -1 := by
  unfold oneF
  split
  · exact h
  · rfl
theorem oneF_in {l : List XRule} (h : rulesB l = true) {u a n : Int} {k : Nat} (hk : k < l.length) (hh : hitB u 2 a l[k] = true) (hn : a + n - 1 ≤ l[k].Hi) : oneF l u a n = k := by
  have h0 := at_window h hk hh
  have hf := hit_facts hh
  unfold oneF
  rw [if_pos, h0]
  rw [List.all_eq_true]
  intro i hi
  have hi := List.mem_range.1 hi
  rw [h0, at_window h hk (by simp [hitB, inB]; omega)]
  simp
theorem oneF_out {l : List XRule} {u a n : Int} {k : Nat} (hk : k < l.length) (h0 : ruleAt l u 2 a = k) (hn1 : 1 ≤ n) (hn : l[k].Hi < a + n - 1) : oneF l u a n = -1 := by
  unfold oneF
  rw [if_neg]
  rw [List.all_eq_true]
  intro hall
  have h1 := hall (n.toNat - 1) (List.mem_range.2 (by omega))
  have h1 := of_decide_eq_true h1
  rw [h0] at h1
  rcases ruleAt_cases l u 2 (a + ((n.toNat - 1 : Nat) : Int)) with ⟨hr, _⟩ | ⟨j, hj, hr, hhit, _⟩
  · omega
  · have : j = k := by omega
    subst this
    have := hit_facts hhit
    omega
theorem m_oneRule (l : List XRule) (u a n : Int) (ha : 0 ≤ a) (ha2 : a ≤ 65536) (hn : 0 ≤ n) (hn2 : n ≤ 2000) : PureC Try.prog 74 [XRule.sV l, i64v u, i64v a, i64v n] [i64v (oneF l u a n)] := by
  refine pureC_of (Γ := lookT tbl) (il := ilist) tg dr Try.func74 rfl (by kernel_rfl) rfl (Nat.le_of_ble_eq_true rfl) ?_
  conv => whnf
  refine call_i (m_RuleAt l u 2 a) ?_
  conv => whnf
  refine loop_i (fun k : Nat => ⟨envL [(0, .c (.pv (XRule.sP l))), (1, .c (.pv (.int .i64 u))), (2, .c (.pv (.int .i64 a))), (9, .c (.pv (.int .i64 (ruleAt l u 2 a)))), (15, .c (.pv (.int .i64 n))), (16, .c (.pv (.int .i64 k)))], resL [], 0, 29⟩) (fun k => (k : Int) ≤ n ∧ (List.range k).all (fun i => decide (ruleAt l u 2 (a + (i : Nat)) = ruleAt l u 2 a)) = true) (fun k => n.toNat - k) 0 ⟨hn, rfl⟩ (le_mk [] rfl ⟨⟨rfl, rfl⟩, ⟨rfl, rfl⟩, ⟨rfl, rfl⟩, ⟨rfl, rfl⟩, ⟨rfl, rfl⟩, ⟨rfl, rfl⟩, trivial⟩ trivial rfl) ?_
  intro k ⟨hk, hs⟩
  conv => whnf
  refine br_i (fun h => ?_) (fun h => ?_)
  · have h : (k : Int) < n := by simpa using h
    conv => whnf
    rw [wrap_ok (x := a + (k : Int)) (by omega) (by omega)]
    refine call_i (m_RuleAt l u 2 (a + k)) ?_
    conv => whnf
    refine br_i (fun h2 => ?_) (fun h2 => ?_)
    · conv => whnf
      refine leaf_i rfl rfl ?_
      have h2 : ruleAt l u 2 (a + k) ≠ ruleAt l u 2 a := by simpa using h2
      rw [show oneF l u a n = -1 from if_neg (by
        rw [List.all_eq_true]
        intro hall
        exact h2 (of_decide_eq_true (hall k (List.mem_range.2 (by omega)))))]
      rfl
    · conv => whnf
      have h2 : ruleAt l u 2 (a + k) = ruleAt l u 2 a := by simpa using h2
      exact ⟨k + 1, ⟨⟨by omega, by rw [List.range_succ, List.all_append, hs]; simp [h2]⟩, by omega⟩, le_mk [] rfl ⟨⟨rfl, rfl⟩, ⟨rfl, rfl⟩, ⟨rfl, rfl⟩, ⟨rfl, rfl⟩, ⟨rfl, rfl⟩, ⟨ctr (by omega), rfl⟩, trivial⟩ trivial rfl⟩
  · have h : (k : Int) = n := by have h := of_decide_eq_false h; omega
    conv => whnf
    refine leaf_i rfl rfl ?_
    rw [show oneF l u a n = ruleAt l u 2 a from if_pos (by rw [← h]; exact hs)]
    rfl
theorem s_Both (l : List XRule) (u : Int) (q : XReq) (hk23 : q.Kind = 23) (h1 : rulesB l = true) (h2 : specReq q = true) : PureC Try.prog 47 [XRule.sV l, i64v u, q.v] [XPart.sV (bothOf l u q).1, i64v (bothOf l u q).2] := by
  refine pureC_of (Γ := lookT tbl) (il := ilist) tg dr Try.func47 rfl (by kernel_rfl) rfl (Nat.le_of_ble_eq_true rfl) ?_
  obtain ⟨hA, _, hq⟩ := req_is h2
  cases hq <;> rename_i hk hN hW hB hX <;> try (exfalso; omega)
  have hC := s_l10CopyReq q (by unfold XReq.tot; rw [hB]; simp; omega)
  conv => whnf
  refine call_i (s_RuleAt l u 2 q.At) ?_
  rcases ruleAt_cases l u 2 q.At with ⟨hr, _⟩ | ⟨k, hk, hr, hhit, _⟩
  · rw [show bothOf l u q = ([], 2) by unfold bothOf; rw [hr]; rfl]
    rw [hr]
    (repeat' ((conv => whnf); first | exact leaf_i rfl rfl rfl | refine And.intro rfl ?_))
  · have ix := idx_map l XRule.ps k hk 7
    have hrf := rule_facts (rules_get h1 hk).1
    have hhf := hit_facts hhit
    have hbo : bothOf l u q = if q.At + q.N - 1 > l[k].Hi ∨ q.WAt < l[k].Lo ∨ q.WAt + q.Words.length - 1 > l[k].Hi then ([], 2) else ([⟨l[k].Port, l[k].To, ⟨q.Kind, wrap64 (q.At + l[k].Shift), q.N, q.Words, q.Bits, wrap64 (q.WAt + l[k].Shift)⟩⟩], 0) := by
      unfold bothOf
      rw [hr, if_neg (by omega), Int.toNat_natCast, List.getElem?_eq_getElem hk]
    rw [hr, hbo]
    generalize l[k] = r at *
    conv => whnf
    refine ⟨_, ix, ?_⟩
    conv => whnf
    rw [wrap_ok (x := q.At + q.N) (by omega) (by omega), wrap_ok (x := q.At + q.N - 1) (by omega) (by omega)]
    refine br_i (fun h => ?_) (fun h => ?_)
    · have h := of_decide_eq_true h
      rw [if_pos (.inl h)]
      (repeat' ((conv => whnf); first | exact leaf_i rfl rfl rfl | refine And.intro rfl ?_))
    have t1 := of_decide_eq_false h
    conv => whnf
    refine ⟨_, ix, ?_⟩
    conv => whnf
    refine br_i (fun h => ?_) (fun h => ?_)
    · have h := of_decide_eq_true h
      rw [if_pos (.inr (.inl h))]
      (repeat' ((conv => whnf); first | exact leaf_i rfl rfl rfl | refine And.intro rfl ?_))
    have t2 := of_decide_eq_false h
    conv => whnf
    refine ⟨_, ix, ?_⟩
    conv => whnf
    rw [List.length_map, wrap_ok (x := q.WAt + (q.Words.length : Int)) (by omega) (by omega), wrap_ok (x := q.WAt + (q.Words.length : Int) - 1) (by omega) (by omega)]
    refine And.intro rfl ?_
    conv => whnf
    refine br_i (fun h => ?_) (fun h => ?_)
    · have h := of_decide_eq_true h
      rw [if_pos (.inr (.inr h))]
      (repeat' ((conv => whnf); first | exact leaf_i rfl rfl rfl | refine And.intro rfl ?_))
    have t3 := of_decide_eq_false h
    rw [if_neg (by omega)]
    conv => whnf
    refine call_i hC ?_
    (repeat' ((conv => whnf); first | refine br_i (fun _ => ?_) (fun _ => ?_) | (refine cur_leaf rfl rfl rfl ?_ ?_; · first | assumption | omega | exact hw ‹_›) | refine leaf_i rfl rfl ?_ | refine And.intro rfl ?_ | (refine ⟨_, ix, ?_⟩) | (refine And.intro ?_ ?_; · decide)))
    all_goals rfl
theorem m_both (l : List XRule) (u : Int) (q : XReq) (hk23 : q.Kind = 23) (h1 : rulesB l = true) (h2 : specReq q = true) : PureC Try.prog 42 [XRule.sV l, i64v u, q.v] [XPart.sV (bothOf l u q).1, i64v (bothOf l u q).2] := by
  refine pureC_of (Γ := lookT tbl) (il := ilist) tg dr Try.func42 rfl (by kernel_rfl) rfl (Nat.le_of_ble_eq_true rfl) ?_
  obtain ⟨hA, _, hq⟩ := req_is h2
  have hwr := m_written q
  rw [written_eq hq] at hwr
  cases hq <;> rename_i hk hN hW hB hX <;> try (exfalso; omega)
  have hC := m_cloneReq q (by unfold XReq.tot; rw [hB]; simp; omega)
  rw [if_neg (by omega), hB, List.length_nil, Nat.add_zero] at hwr
  have hr1 := m_oneRule l u q.At q.N (by omega) (by omega) (by omega) (by omega)
  have hr2 := m_oneRule l u q.WAt q.Words.length (by omega) (by omega) (by omega) (by omega)
  conv => whnf
  refine call_i hr1 ?_
  conv => whnf
  refine call_i hwr ?_
  conv => whnf
  refine call_i hr2 ?_
  conv => whnf
  refine And.intro rfl ?_
  conv => whnf
  rcases ruleAt_cases l u 2 q.At with ⟨hr, _⟩ | ⟨k, hk, hr, hhit, _⟩
  · rw [show bothOf l u q = ([], 2) by unfold bothOf; rw [hr]; rfl]
    rw [oneF_none hr]
    conv => whnf
    exact leaf_i rfl rfl rfl
  · have ix := idx_map l XRule.ps k hk 7
    have hrf := rule_facts (rules_get h1 hk).1
    have hhf := hit_facts hhit
    have hbo : bothOf l u q = if q.At + q.N - 1 > l[k].Hi ∨ q.WAt < l[k].Lo ∨ q.WAt + q.Words.length - 1 > l[k].Hi then ([], 2) else ([⟨l[k].Port, l[k].To, ⟨q.Kind, wrap64 (q.At + l[k].Shift), q.N, q.Words, q.Bits, wrap64 (q.WAt + l[k].Shift)⟩⟩], 0) := by
      unfold bothOf
      rw [hr, if_neg (by omega), Int.toNat_natCast, List.getElem?_eq_getElem hk]
    rw [hbo]
    by_cases t1 : q.At + q.N - 1 > l[k].Hi
    · rw [if_pos (.inl t1), oneF_out hk hr (by omega) (by omega)]
      conv => whnf
      exact leaf_i rfl rfl rfl
    rw [oneF_in h1 hk hhit (by omega)]
    by_cases t2 : q.WAt < l[k].Lo ∨ q.WAt + q.Words.length - 1 > l[k].Hi
    · rw [if_pos (.inr t2)]
      have hne : oneF l u q.WAt q.Words.length ≠ k := by
        intro he
        rcases ruleAt_cases l u 2 q.WAt with ⟨hr2, _⟩ | ⟨j, hj, hr2, hh2, _⟩
        · rw [oneF_none hr2] at he; omega
        · by_cases t3 : l[j].Hi < q.WAt + q.Words.length - 1
          · rw [oneF_out hj hr2 (by omega) t3] at he; omega
          · rw [oneF_in h1 hj hh2 (by omega)] at he
            have : j = k := by omega
            subst this
            have := hit_facts hh2
            omega
      generalize oneF l u q.WAt q.Words.length = w at *
      conv => whnf
      refine br_i (fun _ => ?_) (fun h => absurd h (by simp; omega))
      conv => whnf
      exact leaf_i rfl rfl rfl
    rw [if_neg (by omega), oneF_in h1 hk (by simp [hitB, inB]; omega) (by omega)]
    generalize l[k] = r at *
    conv => whnf
    refine br_i (fun h => absurd h (by simp)) (fun _ => ?_)
    conv => whnf
    refine call_i hC ?_
    (repeat' ((conv => whnf); first | refine br_i (fun _ => ?_) (fun _ => ?_) | (refine cur_leaf rfl rfl rfl ?_ ?_; · first | assumption | omega | exact hw ‹_›) | refine leaf_i rfl rfl ?_ | refine And.intro rfl ?_ | (refine ⟨_, ix, ?_⟩) | (refine And.intro ?_ ?_; · decide)))
    all_goals rfl
theorem go_len (l : List XRule) (u sp a n : Int) (q : XReq) : ∀ (fuel : Nat) (f : Int) (out out2 : List XPart), (∀ p ∈ out, p.Req.tot ≤ q.tot) → partsGo l u sp a n q fuel f out = some out2 → ∀ p ∈ out2, p.Req.tot ≤ q.tot
  | 0, _, _, _, _, h => by cases h
  | fuel + 1, f, out, out2, ho, h => by
    unfold partsGo at h
    split at h
    · cases h; exact ho
    split at h
    · cases h
    split at h
    · cases h
    · rename_i r _
      refine go_len l u sp a n q fuel _ _ _ (fun p hp => ?_) h
      rcases List.mem_append.1 hp with hp | hp
      · exact ho p hp
      · simp at hp
        subst hp
        unfold pieceOf XReq.tot
        dsimp only
        have h1 := cut_bound q.Words f (f + takeN r a n f)
        have h2 := cut_bound q.Bits f (f + takeN r a n f)
        split <;> omega
theorem parts_size (l : List XRule) (u : Int) (q : XReq) (hq : q.tot ≤ 1048576) : sumF XPart.mc (parts l u q).1 ≤ 8 * (q.tot + 100) := by
  have key : ∀ out : List XPart, out.length ≤ 8 → (∀ p ∈ out, p.Req.tot ≤ q.tot) → sumF XPart.mc out ≤ 8 * (q.tot + 100) := by
    intro out hl ho
    have : ∀ m : List XPart, (∀ p ∈ m, p.Req.tot ≤ q.tot) → sumF XPart.mc m ≤ m.length * (q.tot + 100) := by
      intro m
      induction m with
      | nil => simp [sumF]
      | cons p m ih =>
        intro h
        have h1 := ih fun x hx => h x (List.mem_cons_of_mem _ hx)
        have h2 := h p (List.mem_cons_self ..)
        simp only [sumF, List.length_cons, Nat.succ_mul]
        have h3 : XPart.mc p ≤ p.Req.tot + 100 := by simp [XPart.mc, XReq.tot]; omega
        omega
    exact Nat.le_trans (this out ho) (Nat.mul_le_mul_right _ hl)
  unfold parts
  split
  · simp [sumF]
  split
  · simp [sumF]
  split
  · unfold bothOf
    split
    · simp [sumF]
    split
    · simp [sumF]
    · split
      · simp [sumF]
      · exact key _ (by simp) (fun p hp => by simp at hp; subst hp; exact Nat.le_refl _)
  · cases hg : partsGo l u (spOf q.Kind) q.At (cntOf q) q ((cntOf q).toNat + 1) 0 [] with
    | none => simp [partsOf, sumF]
    | some out =>
      unfold partsOf
      dsimp only
      split
      · simp [sumF]
      · exact key out (by omega) (go_len _ _ _ _ _ _ _ _ _ _ (by simp) hg)
theorem rules_mc (l : List XRule) : sumF XRule.mc l = 7 * l.length := by
  induction l with
  | nil => rfl
  | cons a l ih => simp [sumF, XRule.mc, ih]; omega
theorem law_FnExactParts (l : List XRule) (hl : ∀ q0, q0 ∈ l → XRule.Ok q0) (u : Int) (_ : (Lit.int .i64 u).wf = true) (q : XReq) (hq : q.Ok) : PureC Try.prog 5 [XRule.sV l, i64v u, q.v] [boolv true] := by
  refine pureC_deep (Γ := lookT tbl) (il := ilist) tg drD Try.func5 rfl (by kernel_rfl) rfl (Nat.le_of_ble_eq_true rfl) rfl ?_
  conv => whnf
  refine Or.inl ?_
  conv => whnf
  refine call_i (szRuleS l 1048576 (by decide) (by decide)) ?_
  conv => whnf
  refine br_i (fun h => ?_) (fun h => ?_)
  · conv => whnf
  have hll := sub_nn (dge h)
  clear h
  conv => whnf
  refine Or.inl ?_
  conv => whnf
  refine call_i (szReq q _ (by omega) (by omega)) ?_
  conv => whnf
  refine br_i (fun h => ?_) (fun h => ?_)
  · conv => whnf
  have hqq := sub_nn (dge h)
  clear h
  have h1 : l.length ≤ 1048576 := by omega
  have h2 : q.tot ≤ 1048576 := by omega
  have hs := s_Parts l u q (s_Both l u q)
  have hm := m_Parts l u q (m_both l u q)
  have e1 : PureC Try.prog 24 [XRule.sV l, XRule.sV l] [boolv true] := by simpa using eqRuleS l l
  have e2 : PureC Try.prog 25 [q.v, q.v] [boolv true] := by simpa using eqReq q q
  have hsz := parts_size l u q h2
  generalize parts l u q = R at *
  obtain ⟨g, w⟩ := R
  dsimp only at hs hm hsz
  have e3 : PureC Try.prog 23 [XPart.sV g, XPart.sV g] [boolv true] := by simpa using eqPartS g g
  have hqs : q.sc = q.tot := by simp [XReq.sc, XReq.tot]
  have hrs := rules_mc l
  obtain ⟨a1, A1⟩ := mkRuleS l 1 (by decide) (by omega)
  obtain ⟨a2, a3, A2⟩ := mkReq q (1 + sumF XRule.mc l) (by omega) (by omega)
  obtain ⟨c1, C1, C2⟩ := mkPartS g 1 (by decide) (by omega)
  (repeat' ((conv => whnf); first | exact rfl | (refine br_i ?_ ?_; (· (intro h; exfalso; first | (simp at h; done) | (have := dlt h; omega))); intro _) | (refine br_i ?_ ?_; rotate_left; (· (intro h; exfalso; simp at h; done)); intro _) | refine br_i (fun _ => ?_) (fun _ => ?_) | refine And.intro rfl ?_ | (refine Or.inl ?_; (conv => whnf); refine call_i (hs) ?_) | (refine Or.inl ?_; (conv => whnf); refine call_i (hm) ?_) | (refine Or.inl ?_; (conv => whnf); refine call_i (toRuleS l h1) ?_) | (refine Or.inl ?_; (conv => whnf); refine call_i (toReq q h2) ?_) | (refine Or.inl ?_; (conv => whnf); refine call_i (e1) ?_) | (refine Or.inl ?_; (conv => whnf); refine call_i (e2) ?_) | (refine Or.inl ?_; (conv => whnf); refine call_i (e3) ?_) | refine mark_i A1 rfl ?_ | refine mark_i A2 rfl ?_ | refine mark_i A2.1 rfl ?_ | refine mark_i C1 rfl ?_ | (refine Or.inl ?_; (conv => whnf); refine call_i (C2) ?_) | (refine And.intro ?_ ?_; · decide)); all_goals (try (conv => whnf)))

end Go.Proofs.Ytdgmaaiijkoedaa
