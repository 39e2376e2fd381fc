/- Parts of a question: the rounds, and the law. -/
import Derived.Test.YtdgmaaiijkoedaaXParts
namespace Go.Proofs.Ytdgmaaiijkoedaa
open Go Go.Vi
set_option linter.unusedVariables false
set_option linter.unusedSimpArgs false
set_option maxRecDepth 100000
theorem ruleAt_cases (l : List XRule) (u s p : Int) : (ruleAt l u s p = -1 ∧ ∀ k (h : k < l.length), hitB u s p l[k] = false) ∨ ∃ k, ∃ h : k < l.length, ruleAt l u s p = k ∧ hitB u s p l[k] = true ∧ ∀ j, (hj : j < k) → hitB u s p (l[j]'(by omega)) = false := by
  unfold ruleAt firstBad
  by_cases ha : l.all (fun r => !hitB u s p r) = true
  · refine .inl ⟨if_pos ha, fun k h => ?_⟩
    have := List.all_eq_true.1 ha l[k] (List.getElem_mem h)
    simpa using this
  · rw [if_neg ha]
    have ha2 : ∃ x ∈ l, hitB u s p x = true := by
      apply Classical.byContradiction
      intro hn
      apply ha
      rw [List.all_eq_true]
      intro x hx
      cases hh : hitB u s p x with
      | false => rfl
      | true => exact absurd ⟨x, hx, hh⟩ hn
    obtain ⟨x, hx, hp⟩ := ha2
    have hlt : l.findIdx (fun x => !(!hitB u s p x)) < l.length := List.findIdx_lt_length_of_exists ⟨x, hx, by simp [hp]⟩
    refine .inr ⟨_, hlt, rfl, ?_, fun j hj => ?_⟩
    · have := List.findIdx_getElem (p := fun x => !(!hitB u s p x)) (w := hlt)
      simpa using this
    · have := List.not_of_lt_findIdx hj
      simpa using this
def takeN (r : XRule) (a n f : Int) : Int := if r.Hi - a - f + 1 < n - f then r.Hi - a - f + 1 else n - f
def partsGo (l : List XRule) (u sp a n : Int) (q : XReq) : Nat → Int → List XPart → Option (List XPart)
  | 0, _, _ => none
  | fuel + 1, f, out => if n ≤ f then some out else
    if ruleAt l u sp (a + f) < 0 then none else
    match l[(ruleAt l u sp (a + f)).toNat]? with
    | none => none
    | some r => partsGo l u sp a n q fuel (f + takeN r a n f) (out ++ [⟨r.Port, r.To, pieceOf q f (takeN r a n f) r.Shift⟩])
def bothOf (l : List XRule) (u : Int) (q : XReq) : List XPart × Int :=
  if ruleAt l u 2 q.At < 0 then ([], 2) else
  match l[(ruleAt l u 2 q.At).toNat]? with
  | none => ([], 2)
  | some r => if q.At + q.N - 1 > r.Hi ∨ q.WAt < r.Lo ∨ q.WAt + q.Words.length - 1 > r.Hi then ([], 2) else ([⟨r.Port, r.To, ⟨q.Kind, wrap64 (q.At + r.Shift), q.N, q.Words, q.Bits, wrap64 (q.WAt + r.Shift)⟩⟩], 0)
def known (l : List XRule) (u : Int) : Bool := !l.all fun r => !decide (r.Unit = u)
def partsOf (o : Option (List XPart)) : List XPart × Int := match o with
  | none => ([], 2)
  | some out => if (out.length : Int) > 8 then ([], 3) else (out, 0)
def parts (l : List XRule) (u : Int) (q : XReq) : List XPart × Int :=
  if !rulesB l || !specReq q then ([], 3) else if !known l u then ([], 10) else if q.Kind = 23 then bothOf l u q else
  partsOf (partsGo l u (spOf q.Kind) q.At (cntOf q) q ((cntOf q).toNat + 1) 0 [])
theorem rules_get {l : List XRule} (h : rulesB l = true) {k : Nat} (hk : k < l.length) : ruleB l[k] = true ∧ ∀ j, (hj : j < k) → clash (l[j]'(by omega)) l[k] = false := by
  unfold rulesB upto at h
  rw [Bool.and_eq_true] at h
  have h2 := List.all_eq_true.1 h.2 k (List.mem_range.2 hk)
  rw [ruleIn_at hk, Bool.and_eq_true] at h2
  refine ⟨h2.1, fun j hj => ?_⟩
  have := List.all_eq_true.1 h2.2 (l[j]'(by omega)) (List.mem_take_iff_getElem.2 ⟨j, by omega, rfl⟩)
  simpa using this
theorem rule_facts {r : XRule} (h : ruleB r = true) : (0 ≤ r.Lo ∧ r.Lo ≤ r.Hi ∧ r.Hi ≤ 65535) ∧ (-65535 ≤ r.Shift ∧ r.Shift ≤ 65535) ∧ (0 ≤ r.Lo + r.Shift ∧ r.Hi + r.Shift ≤ 65535) ∧ (0 ≤ r.Port ∧ r.Port ≤ 5) ∧ (1 ≤ r.To ∧ r.To ≤ 247) := by
  simp only [ruleB, inB, Bool.and_eq_true, decide_eq_true_eq] at h
  have e1 : wrap64 (r.Lo + r.Shift) = r.Lo + r.Shift := wrap_ok (by omega) (by omega)
  have e2 : wrap64 (r.Hi + r.Shift) = r.Hi + r.Shift := wrap_ok (by omega) (by omega)
  rw [e1, e2] at h
  omega
theorem hit_facts {u s p : Int} {r : XRule} (h : hitB u s p r = true) : r.Unit = u ∧ r.Space = s ∧ r.Lo ≤ p ∧ p ≤ r.Hi := by
  simp [hitB, inB] at h
  omega
theorem req_cnt {q : XReq} (h : specReq q = true) : (1 ≤ cntOf q ∧ cntOf q ≤ 2000) ∧ (0 ≤ q.At ∧ q.At + cntOf q ≤ 65536) := by
  obtain ⟨hA, _, hq⟩ := req_is h
  unfold cntOf
  cases hq <;> rename_i hk hN hW hB hX
  case rc => rw [if_pos (by omega)]; omega
  case rw => rw [if_pos (by omega)]; omega
  case rwr => rw [if_pos (by omega)]; omega
  case wc => rw [if_neg (by omega), if_neg (by omega), hW]; simp; omega
  case ww => rw [if_neg (by omega), if_neg (by omega), hB]; simp; omega
  case wcs => rw [if_neg (by omega), if_neg (by omega), hW]; simp; omega
  case wws => rw [if_neg (by omega), if_neg (by omega), hB]; simp; omega
  case mw => rw [if_neg (by omega), if_pos hk]; omega
theorem m_unitEq (r : XRule) (u : Int) : PureC Try.prog 41 [r.v, .ptr [.int .i64 u]] [boolv (!(!decide (r.Unit = u)))] := by
  refine pureC_of (Γ := lookT tbl) (il := ilist) tg dr Try.func41 rfl (by kernel_rfl) rfl (Nat.le_of_ble_eq_true rfl) ?_
  (repeat' ((conv => whnf); first | refine br_i (fun _ => ?_) (fun _ => ?_) | (refine cur_leaf rfl rfl rfl ?_ ?_; · first | assumption | omega | exact hw ‹_›) | refine leaf_i rfl rfl ?_ | refine And.intro rfl ?_ | (refine And.intro ?_ ?_; · decide)))
  all_goals (refine bool_leaf ?_; first | (simp_all []; done) | (simp_all []; omega))
theorem m_Parts (l : List XRule) (u : Int) (q : XReq) (h23 : q.Kind = 23 → rulesB l = true → specReq q = true → PureC Try.prog 42 [XRule.sV l, i64v u, q.v] [XPart.sV (bothOf l u q).1, i64v (bothOf l u q).2]) : PureC Try.prog 12 [XRule.sV l, i64v u, q.v] [XPart.sV (parts l u q).1, i64v (parts l u q).2] := by
  refine pureC_of (Γ := lookT tbl) (il := ilist) tg dr Try.func12 rfl (by kernel_rfl) rfl (Nat.le_of_ble_eq_true rfl) ?_
  have hRl := m_RulesOk l
  have hRq := m_ReqOk q
  rw [implReq_eq] at hRq
  unfold parts
  have hC := m_containsR l 41 [[.int .i64 u]] (fun r => !decide (r.Unit = u)) (fun x _ => m_unitEq x u)
  have hk : (!l.all fun r => !decide (r.Unit = u)) = known l u := rfl
  rw [hk] at hC
  conv => whnf
  refine call_i hRl ?_
  conv => whnf
  cases h1 : rulesB l with
  | false =>
    conv => whnf
    exact leaf_i rfl rfl rfl
  | true =>
  conv => whnf
  refine call_i hRq ?_
  conv => whnf
  cases h2 : specReq q with
  | false =>
    conv => whnf
    exact leaf_i rfl rfl rfl
  | true =>
  conv => whnf
  refine call_i hC ?_
  conv => whnf
  cases h3 : known l u with
  | false =>
    conv => whnf
    exact leaf_i rfl rfl rfl
  | true =>
  conv => whnf
  refine br_i (fun h => ?_) (fun h => ?_)
  · have h : q.Kind = 23 := by simpa using h
    conv => whnf
    refine call_i (h23 h h1 h2) ?_
    conv => whnf
    rw [if_neg (by decide), if_neg (by decide), if_pos h]
    exact leaf_i rfl rfl rfl
  have hk23 : q.Kind ≠ 23 := by simpa using h
  rw [if_neg (by decide), if_neg (by decide), if_neg hk23]
  conv => whnf
  refine call_i (m_Spaces q) ?_
  unfold spaces
  rw [h2]
  obtain ⟨hn, ha⟩ := req_cnt h2
  conv => whnf
  have hpc := fun (f m s : Int) (h0 : 0 ≤ f) (hm : 1 ≤ m) (hfm : f + m ≤ cntOf q) => m_piece q h2 hk23 f m s h0 hm hfm
  generalize cntOf q = n at *
  generalize hR : partsGo l u (spOf q.Kind) q.At n q (n.toNat + 1) 0 [] = R
  refine loop_i (fun s : Nat × Int × List XPart => ⟨envL [(0, .c (.pv (XRule.sP l))), (4, .c (.ptr 0 0)), (5, .c (.ptr 1 0)), (8, .c (.pv (.int .i64 (spOf q.Kind)))), (9, .c (.pv (.int .i64 q.At))), (10, .c (.pv (.int .i64 n))), (11, .c (.row 2)), (12, .c (.pv (.int .i64 s.2.1)))], resL [(0, .box [.pv (.int .i64 u)]), (1, .box (q.ps.map .pv)), (2, .row true 8 (s.2.2.map XPart.ps))], 3, 95⟩)
    (fun s => (0 ≤ s.2.1 ∧ s.2.1 ≤ n ∧ n - s.2.1 < s.1 ∧ (s.2.2.length : Int) ≤ s.2.1) ∧ partsGo l u (spOf q.Kind) q.At n q s.1 s.2.1 s.2.2 = R) (fun s => s.1) (n.toNat + 1, 0, []) ⟨⟨Int.le_refl _, by show 0 ≤ n; omega, by show n - 0 < ((n.toNat + 1 : Nat) : Int); omega, Int.le_refl _⟩, hR⟩
    (le_mk [(0, _), (1, _), (2, _)] rfl ⟨⟨rfl, rfl⟩, ⟨rfl, rfl⟩, ⟨rfl, rfl⟩, ⟨rfl, rfl⟩, ⟨rfl, rfl⟩, ⟨rfl, rfl⟩, ⟨rfl, rfl⟩, ⟨rfl, rfl⟩, trivial⟩ ⟨⟨rfl, rfl⟩, ⟨rfl, rfl⟩, ⟨rfl, rfl⟩, trivial⟩ rfl) ?_
  rintro ⟨fuel, f, out⟩ ⟨⟨hf0, hfn, hfu, hol⟩, hgo⟩
  dsimp only at hf0 hfn hfu hol hgo
  cases fuel with
  | zero => omega
  | succ fuel =>
  conv => whnf
  refine br_i (fun h => ?_) (fun h => ?_)
  · have h : f < n := by simpa using h
    conv => whnf
    rw [wrap_ok (x := q.At + f) (by omega) (by omega)]
    refine call_i (m_RuleAt l u (spOf q.Kind) (q.At + f)) ?_
    have hstep : partsGo l u (spOf q.Kind) q.At n q (fuel + 1) f out = if ruleAt l u (spOf q.Kind) (q.At + f) < 0 then none else
        match l[(ruleAt l u (spOf q.Kind) (q.At + f)).toNat]? with
        | none => none
        | some r => partsGo l u (spOf q.Kind) q.At n q fuel (f + takeN r q.At n f) (out ++ [⟨r.Port, r.To, pieceOf q f (takeN r q.At n f) r.Shift⟩]) := if_neg (by omega)
    rw [hstep] at hgo
    clear hstep
    rcases ruleAt_cases l u (spOf q.Kind) (q.At + f) with ⟨hr, _⟩ | ⟨k, hk, hr, hhit, _⟩
    · rw [hr] at hgo ⊢
      rw [if_pos (by decide)] at hgo
      conv => whnf
      refine leaf_i rfl rfl ?_
      rw [← hgo]
      rfl
    · rw [hr] at hgo ⊢
      conv => whnf
      refine ⟨_, idx_map l XRule.ps k hk 7, ?_⟩
      have hrf := rule_facts (rules_get h1 hk).1
      have hhf := hit_facts hhit
      rw [if_neg (by omega), Int.toNat_natCast, List.getElem?_eq_getElem hk] at hgo
      dsimp only at hgo
      generalize l[k] = r at *
      conv => whnf
      rw [wrap_ok (x := n - f) (by omega) (by omega), wrap_ok (x := r.Hi - q.At) (by omega) (by omega), wrap_ok (x := r.Hi - q.At - f) (by omega) (by omega), wrap_ok (x := r.Hi - q.At - f + 1) (by omega) (by omega)]
      have hm : 1 ≤ takeN r q.At n f ∧ f + takeN r q.At n f ≤ n := by unfold takeN; split <;> omega
      have hp := hpc f (takeN r q.At n f) r.Shift hf0 hm.1 hm.2
      have hmd : takeN r q.At n f = if r.Hi - q.At - f + 1 < n - f then r.Hi - q.At - f + 1 else n - f := rfl
      rw [← hmd]
      clear hmd
      generalize takeN r q.At n f = m at *
      refine call_i hp ?_
      conv => whnf
      refine And.intro rfl ?_
      conv => whnf
      refine ⟨(out ++ [(⟨r.Port, r.To, pieceOf q f m r.Shift⟩ : XPart)]).map XPart.ps, ⟨by rw [List.length_map]; show (out.length + 1) * 96 ≤ 140737488355328; omega, by rw [List.map_append]; rfl⟩, ?_⟩
      conv => whnf
      refine And.intro rfl ?_
      conv => whnf
      exact ⟨(fuel, f + m, out ++ [⟨r.Port, r.To, pieceOf q f m r.Shift⟩]), ⟨⟨⟨by show 0 ≤ f + m; omega, hm.2, by show n - (f + m) < (fuel : Int); omega, by show ((out ++ [_]).length : Int) ≤ f + m; rw [List.length_append, List.length_singleton]; omega⟩, hgo⟩, Nat.lt_succ_self _⟩,
        le_mk [(0, _), (1, _), (2, _)] rfl ⟨⟨rfl, rfl⟩, ⟨rfl, rfl⟩, ⟨rfl, rfl⟩, ⟨rfl, rfl⟩, ⟨rfl, rfl⟩, ⟨rfl, rfl⟩, ⟨rfl, rfl⟩, ⟨i64_eq (wrap_ok (by show -9223372036854775808 ≤ f + m; omega) (by show f + m ≤ 9223372036854775807; omega)), rfl⟩, trivial⟩ ⟨⟨rfl, rfl⟩, ⟨rfl, rfl⟩, ⟨rfl, rfl⟩, trivial⟩ rfl⟩
  · have h : f = n := by have h := of_decide_eq_false h; dsimp only at h; omega
    subst h
    have hstep : partsGo l u (spOf q.Kind) q.At f q (fuel + 1) f out = some out := if_pos (Int.le_refl _)
    rw [hstep] at hgo
    rw [← hgo]
    conv => whnf
    refine br_i (fun h => ?_) (fun h => ?_)
    · have h := of_decide_eq_true h
      rw [List.length_map] at h
      conv => whnf
      refine leaf_i rfl rfl ?_
      rw [show partsOf (some out) = ([], 3) from if_pos h]
      rfl
    · have h := of_decide_eq_false h
      rw [List.length_map] at h
      conv => whnf
      refine leaf_i rfl rfl ?_
      rw [show partsOf (some out) = (out, 0) from if_neg h]
      rfl
theorem s_Parts (l : List XRule) (u : Int) (q : XReq) (h23 : q.Kind = 23 → rulesB l = true → specReq q = true → PureC Try.prog 47 [XRule.sV l, i64v u, q.v] [XPart.sV (bothOf l u q).1, i64v (bothOf l u q).2]) : PureC Try.prog 14 [XRule.sV l, i64v u, q.v] [XPart.sV (parts l u q).1, i64v (parts l u q).2] := by
  refine pureC_of (Γ := lookT tbl) (il := ilist) tg dr Try.func14 rfl (by kernel_rfl) rfl (Nat.le_of_ble_eq_true rfl) ?_
  have hRl := s_RulesOk l
  have hRq := s_ReqOk q
  unfold parts
  conv => whnf
  refine call_i hRl ?_
  conv => whnf
  cases h1 : rulesB l with
  | false =>
    conv => whnf
    exact leaf_i rfl rfl rfl
  | true =>
  conv => whnf
  refine call_i hRq ?_
  conv => whnf
  cases h2 : specReq q with
  | false =>
    conv => whnf
    exact leaf_i rfl rfl rfl
  | true =>
  have hll : l.length ≤ 24 := by unfold rulesB at h1; simp at h1; omega
  conv => whnf
  refine loop_i (fun k : Nat => ⟨envL [(0, .c (.pv (XRule.sP l))), (1, .c (.pv (.int .i64 u))), (5, .c (.ptr 0 0)), (8, .c (.row 1)), (9, .c (.pv (.bool (!(l.take k).all fun r => !decide (r.Unit = u))))), (10, .c (.pv (.int .i64 k)))], resL [(0, .box (q.ps.map .pv)), (1, .row true 8 [])], 2, 125⟩) (fun k => k ≤ l.length) (fun k => l.length - k) 0 (Nat.zero_le _) (le_mk [(0, _), (1, _)] rfl ⟨⟨rfl, rfl⟩, ⟨rfl, rfl⟩, ⟨rfl, rfl⟩, ⟨rfl, rfl⟩, ⟨rfl, rfl⟩, ⟨rfl, rfl⟩, trivial⟩ ⟨⟨rfl, rfl⟩, ⟨rfl, rfl⟩, trivial⟩ rfl) ?_
  intro k hk
  conv => whnf
  refine br_i (fun h => ?_) (fun h => ?_)
  · have hlt : k < l.length := by simpa using h
    have ix := idx_map l XRule.ps k hlt 7
    have hnx : (!(l.take (k + 1)).all fun r => !decide (r.Unit = u)) = ((!(l.take k).all fun r => !decide (r.Unit = u)) || (l[k].Unit == u)) := by
      rw [List.take_succ_eq_append_getElem hlt, List.all_append]
      simp
      cases ((l.take k).all fun r => !decide (r.Unit = u)) <;> simp [BEq.beq]
    generalize l[k] = r at *
    generalize hz : (!(l.take k).all fun r => !decide (r.Unit = u)) = z at *
    conv => whnf
    refine br_i (fun h => ?_) (fun h => ?_)
    · conv => whnf
      exact ⟨k + 1, ⟨hlt, by omega⟩, le_mk [(0, _), (1, _)] rfl ⟨⟨rfl, rfl⟩, ⟨rfl, rfl⟩, ⟨rfl, rfl⟩, ⟨rfl, rfl⟩, ⟨by rw [hnx, h]; rfl, rfl⟩, ⟨ctr (by omega), rfl⟩, trivial⟩ ⟨⟨rfl, rfl⟩, ⟨rfl, rfl⟩, trivial⟩ rfl⟩
    · conv => whnf
      refine ⟨_, ix, ?_⟩
      conv => whnf
      exact ⟨k + 1, ⟨hlt, by omega⟩, le_mk [(0, _), (1, _)] rfl ⟨⟨rfl, rfl⟩, ⟨rfl, rfl⟩, ⟨rfl, rfl⟩, ⟨rfl, rfl⟩, ⟨by rw [hnx, h]; rfl, rfl⟩, ⟨ctr (by omega), rfl⟩, trivial⟩ ⟨⟨rfl, rfl⟩, ⟨rfl, rfl⟩, trivial⟩ rfl⟩
  have hkl : k = l.length := by have := dge h; rw [List.length_map] at this; omega
  subst hkl
  clear h
  rw [List.take_length]
  rw [show (!l.all fun r => !decide (r.Unit = u)) = known l u from rfl]
  conv => whnf
  cases h3 : known l u with
  | false =>
    conv => whnf
    exact leaf_i rfl rfl rfl
  | true =>
  conv => whnf
  refine br_i (fun h => ?_) (fun h => ?_)
  · have h : q.Kind = 23 := by simpa using h
    conv => whnf
    refine call_i (h23 h h1 h2) ?_
    conv => whnf
    rw [if_neg (by decide), if_neg (by decide), if_pos h]
    exact leaf_i rfl rfl rfl
  have hk23 : q.Kind ≠ 23 := by simpa using h
  rw [if_neg (by decide), if_neg (by decide), if_neg hk23]
  conv => whnf
  refine call_i (s_Spaces q) ?_
  unfold spaces
  rw [h2]
  obtain ⟨hn, ha⟩ := req_cnt h2
  conv => whnf
  have hpc := fun (f m s : Int) (h0 : 0 ≤ f) (hm : 1 ≤ m) (hfm : f + m ≤ cntOf q) => s_Piece q h2 hk23 f m s h0 hm hfm
  generalize cntOf q = n at *
  generalize hR : partsGo l u (spOf q.Kind) q.At n q (n.toNat + 1) 0 [] = R
  refine loop_i (fun s : Nat × Int × List XPart => ⟨envL [(0, .c (.pv (XRule.sP l))), (1, .c (.pv (.int .i64 u))), (5, .c (.ptr 0 0)), (8, .c (.row 1)), (11, .c (.pv (.int .i64 (spOf q.Kind)))), (12, .c (.pv (.int .i64 q.At))), (13, .c (.pv (.int .i64 n))), (14, .c (.row 2)), (15, .c (.pv (.int .i64 s.2.1)))], resL [(0, .box (q.ps.map .pv)), (1, .row true 8 []), (2, .row true 8 (s.2.2.map XPart.ps))], 3, 125⟩)
    (fun s => (0 ≤ s.2.1 ∧ s.2.1 ≤ n ∧ n - s.2.1 < s.1 ∧ (s.2.2.length : Int) ≤ s.2.1) ∧ partsGo l u (spOf q.Kind) q.At n q s.1 s.2.1 s.2.2 = R) (fun s => s.1) (n.toNat + 1, 0, []) ⟨⟨Int.le_refl _, by show 0 ≤ n; omega, by show n - 0 < ((n.toNat + 1 : Nat) : Int); omega, Int.le_refl _⟩, hR⟩
    (le_mk [(0, _), (1, _), (2, _)] rfl ⟨⟨rfl, rfl⟩, ⟨rfl, rfl⟩, ⟨rfl, rfl⟩, ⟨rfl, rfl⟩, ⟨rfl, rfl⟩, ⟨rfl, rfl⟩, ⟨rfl, rfl⟩, ⟨rfl, rfl⟩, ⟨rfl, rfl⟩, trivial⟩ ⟨⟨rfl, rfl⟩, ⟨rfl, rfl⟩, ⟨rfl, rfl⟩, trivial⟩ rfl) ?_
  rintro ⟨fuel, f, out⟩ ⟨⟨hf0, hfn, hfu, hol⟩, hgo⟩
  dsimp only at hf0 hfn hfu hol hgo
  cases fuel with
  | zero => omega
  | succ fuel =>
  conv => whnf
  refine br_i (fun h => ?_) (fun h => ?_)
  · have h : f < n := by simpa using h
    conv => whnf
    rw [wrap_ok (x := q.At + f) (by omega) (by omega)]
    refine call_i (s_RuleAt l u (spOf q.Kind) (q.At + f)) ?_
    have hstep : partsGo l u (spOf q.Kind) q.At n q (fuel + 1) f out = if ruleAt l u (spOf q.Kind) (q.At + f) < 0 then none else
        match l[(ruleAt l u (spOf q.Kind) (q.At + f)).toNat]? with
        | none => none
        | some r => partsGo l u (spOf q.Kind) q.At n q fuel (f + takeN r q.At n f) (out ++ [⟨r.Port, r.To, pieceOf q f (takeN r q.At n f) r.Shift⟩]) := if_neg (by omega)
    rw [hstep] at hgo
    clear hstep
    rcases ruleAt_cases l u (spOf q.Kind) (q.At + f) with ⟨hr, _⟩ | ⟨k, hk, hr, hhit, _⟩
    · rw [hr] at hgo ⊢
      rw [if_pos (by decide)] at hgo
      conv => whnf
      refine leaf_i rfl rfl ?_
      rw [← hgo]
      rfl
    · rw [hr] at hgo ⊢
      have ix := idx_map l XRule.ps k hk 7
      have hrf := rule_facts (rules_get h1 hk).1
      have hhf := hit_facts hhit
      rw [if_neg (by omega), Int.toNat_natCast, List.getElem?_eq_getElem hk] at hgo
      dsimp only at hgo
      generalize l[k] = r at *
      conv => whnf
      refine ⟨_, ix, ?_⟩
      conv => whnf
      have hm : 1 ≤ takeN r q.At n f ∧ f + takeN r q.At n f ≤ n := by unfold takeN; split <;> omega
      have hp := hpc f (takeN r q.At n f) r.Shift hf0 hm.1 hm.2
      have hmd : takeN r q.At n f = if r.Hi - q.At - f + 1 < n - f then r.Hi - q.At - f + 1 else n - f := rfl
      rw [wrap_ok (x := q.At + f) (by omega) (by omega), wrap_ok (x := r.Hi - (q.At + f)) (by omega) (by omega), wrap_ok (x := r.Hi - (q.At + f) + 1) (by omega) (by omega), wrap_ok (x := n - f) (by omega) (by omega)]
      refine br_i (fun h => ?_) (fun h => ?_)
      focus
        have h := of_decide_eq_true h
        rw [if_neg (by omega)] at hmd
        conv => whnf
        rw [wrap_ok (x := n - f) (by omega) (by omega)]
      rotate_left
      focus
        have h := of_decide_eq_false h
        have hmd2 : takeN r q.At n f = r.Hi - (q.At + f) + 1 := by rw [hmd]; split <;> omega
        clear hmd
        have hmd := hmd2
        conv => whnf
      all_goals
        rw [← hmd]
        clear hmd
        generalize takeN r q.At n f = m at *
        refine ⟨_, ix, ?_⟩
        conv => whnf
        refine ⟨_, ix, ?_⟩
        conv => whnf
        refine ⟨_, ix, ?_⟩
        conv => whnf
        refine call_i hp ?_
        conv => whnf
        refine And.intro rfl ?_
        conv => whnf
        refine ⟨(out ++ [(⟨r.Port, r.To, pieceOf q f m r.Shift⟩ : XPart)]).map XPart.ps, ⟨by rw [List.length_map]; show (out.length + 1) * 96 ≤ 140737488355328; omega, by rw [List.map_append]; rfl⟩, ?_⟩
        conv => whnf
        refine And.intro rfl ?_
        conv => whnf
        exact ⟨(fuel, f + m, out ++ [⟨r.Port, r.To, pieceOf q f m r.Shift⟩]), ⟨⟨⟨by show 0 ≤ f + m; omega, hm.2, by show n - (f + m) < (fuel : Int); omega, by show ((out ++ [_]).length : Int) ≤ f + m; rw [List.length_append, List.length_singleton]; omega⟩, hgo⟩, Nat.lt_succ_self _⟩,
          le_mk [(0, _), (1, _), (2, _)] rfl ⟨⟨rfl, rfl⟩, ⟨rfl, rfl⟩, ⟨rfl, rfl⟩, ⟨rfl, rfl⟩, ⟨rfl, rfl⟩, ⟨rfl, rfl⟩, ⟨rfl, rfl⟩, ⟨rfl, rfl⟩, ⟨i64_eq (wrap_ok (by show -9223372036854775808 ≤ f + m; omega) (by show f + m ≤ 9223372036854775807; omega)), rfl⟩, trivial⟩ ⟨⟨rfl, rfl⟩, ⟨rfl, rfl⟩, ⟨rfl, rfl⟩, trivial⟩ rfl⟩
  · have h : f = n := by have h := of_decide_eq_false h; dsimp only at h; omega
    subst h
    have hstep : partsGo l u (spOf q.Kind) q.At f q (fuel + 1) f out = some out := if_pos (Int.le_refl _)
    rw [hstep] at hgo
    rw [← hgo]
    conv => whnf
    refine br_i (fun h => ?_) (fun h => ?_)
    · have h := of_decide_eq_true h
      rw [List.length_map] at h
      conv => whnf
      refine leaf_i rfl rfl ?_
      rw [show partsOf (some out) = ([], 3) from if_pos h]
      rfl
    · have h := of_decide_eq_false h
      rw [List.length_map] at h
      conv => whnf
      refine leaf_i rfl rfl ?_
      rw [show partsOf (some out) = (out, 0) from if_neg h]
      rfl

end Go.Proofs.Ytdgmaaiijkoedaa
