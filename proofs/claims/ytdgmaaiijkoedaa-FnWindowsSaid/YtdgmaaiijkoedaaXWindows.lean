/- A point is in one window, or in none. -/
import Derived.Test.YtdgmaaiijkoedaaXBig
namespace Go.Proofs.Ytdgmaaiijkoedaa
open Go Go.Vi
set_option linter.unusedVariables false
set_option linter.unusedSimpArgs false
set_option maxRecDepth 100000
theorem win_req {s p : Int} (hs : 0 ≤ s ∧ s ≤ 3) (hp : 0 ≤ p ∧ p ≤ 23) : specReq ⟨s + 1, p, 1, [], [], 0⟩ = true :=
  (goodR_mk (near := p) (k := s + 1) (a := p) (n := 1) (w := 0) (W := []) (B := []) hp.1 (by omega) (by omega) (by omega) (by simp) (by omega) words_nil (Or.inl ⟨by omega, by omega, rfl, rfl, rfl⟩)).1
theorem win_sp {s : Int} (hs : 0 ≤ s ∧ s ≤ 3) : spOf (s + 1) = s := by
  have : s = 0 ∨ s = 1 ∨ s = 2 ∨ s = 3 := by omega
  rcases this with rfl | rfl | rfl | rfl <;> decide
theorem win_none {l : List XRule} {u s p : Int} (h : rulesB l = true) (hs : 0 ≤ s ∧ s ≤ 3) (hp : 0 ≤ p ∧ p ≤ 23) (hn : ∀ k (hk : k < l.length), hitB u s p l[k] = false) :
    ruleAt l u s p = -1 ∧ ∃ e, parts l u ⟨s + 1, p, 1, [], [], 0⟩ = ([], e) ∧ (e = 2 ∨ e = 10) := by
  have h1 : ruleAt l u s p = -1 := by
    rcases ruleAt_cases l u s p with h1 | ⟨k, hk, _, h2, _⟩
    · exact h1.1
    · rw [hn k hk] at h2; cases h2
  refine ⟨h1, ?_⟩
  unfold parts
  rw [h, win_req hs hp, if_neg (by decide)]
  by_cases h2 : known l u = true
  · rw [h2, if_neg (by decide), if_neg (by show ¬ s + 1 = 23; omega)]
    refine ⟨2, ?_, .inl rfl⟩
    show partsOf (partsGo l u (spOf (s + 1)) p 1 ⟨s + 1, p, 1, [], [], 0⟩ 2 0 []) = _
    rw [win_sp hs]
    unfold partsGo
    rw [if_neg (by decide), if_pos (by rw [Int.add_zero, h1]; decide)]
    rfl
  · have h2 : known l u = false := by simpa using h2
    rw [h2, if_pos (by decide)]
    exact ⟨10, rfl, .inr rfl⟩
theorem win_one {l : List XRule} {u s p : Int} (h : rulesB l = true) (hs : 0 ≤ s ∧ s ≤ 3) (hp : 0 ≤ p ∧ p ≤ 23) {k : Nat} (hk : k < l.length) (hh : hitB u s p l[k] = true) :
    ruleAt l u s p = k ∧ parts l u ⟨s + 1, p, 1, [], [], 0⟩ = ([⟨l[k].Port, l[k].To, ⟨s + 1, p + l[k].Shift, 1, [], [], 0⟩⟩], 0) ∧ -9223372036854775808 ≤ p + l[k].Shift ∧ p + l[k].Shift ≤ 9223372036854775807 := by
  have h1 : ruleAt l u s p = k := at_window h hk hh
  obtain ⟨c1, c2, c3, c4⟩ := hit_facts hh
  have hf := rule_facts (rules_get h hk).1
  refine ⟨h1, ?_, by omega, by omega⟩
  have hkn : known l u = true := by
    unfold known
    rw [Bool.not_eq_true', List.all_eq_false]
    exact ⟨l[k], List.getElem_mem hk, by simp [c1]⟩
  unfold parts
  rw [h, win_req hs hp, if_neg (by decide), hkn, if_neg (by decide), if_neg (by show ¬ s + 1 = 23; omega)]
  show partsOf (partsGo l u (spOf (s + 1)) p 1 ⟨s + 1, p, 1, [], [], 0⟩ 2 0 []) = _
  rw [win_sp hs]
  unfold partsGo
  rw [if_neg (by decide), Int.add_zero, h1, if_neg (by omega), show ((k : Int)).toNat = k from rfl, List.getElem?_eq_getElem hk]
  dsimp only
  have ht : takeN l[k] p 1 0 = 1 := by unfold takeN; rw [if_neg (by omega)]; rfl
  rw [ht]
  unfold partsGo
  rw [if_pos (by decide)]
  show (([⟨l[k].Port, l[k].To, pieceOf ⟨s + 1, p, 1, [], [], 0⟩ 0 1 l[k].Shift⟩] : List XPart), (0 : Int)) = _
  have e1 : wrap64 (wrap64 (p + 0) + l[k].Shift) = p + l[k].Shift := by
    rw [show wrap64 (p + 0) = p from by rw [Int.add_zero]; exact wrap_ok (by omega) (by omega)]
    exact wrap_ok (by omega) (by omega)
  have e2 : pieceOf ⟨s + 1, p, 1, [], [], 0⟩ 0 1 l[k].Shift = ⟨s + 1, p + l[k].Shift, 1, [], [], 0⟩ := by
    unfold pieceOf
    dsimp only
    rw [e1, cut_nil, cut_nil, if_pos (by decide), if_neg (by omega)]
  rw [e2]
theorem two_clash {u s p : Int} {x r : XRule} (h : hitB u s p x = true) (h2 : hitB u s p r = true) : clash x r = true := by
  obtain ⟨a1, a2, a3, a4⟩ := hit_facts h
  obtain ⟨b1, b2, b3, b4⟩ := hit_facts h2
  simp [clash]
  omega
def seen (l : List XRule) (u s p : Int) (k : Nat) (n : Int) : Prop := (n = 0 ∧ ∀ j (h : j < l.length), j < k → hitB u s p l[j] = false) ∨ (n = 1 ∧ ∃ j, ∃ h : j < l.length, j < k ∧ hitB u s p l[j] = true)
theorem seen_no {l : List XRule} {u s p : Int} {k : Nat} {n : Int} (hs : seen l u s p k n) (hk : k < l.length) (h : hitB u s p l[k] = false) : seen l u s p (k + 1) n := by
  rcases hs with ⟨h1, h2⟩ | ⟨h1, j, h2, h3, h4⟩
  · refine .inl ⟨h1, fun j hj h3 => ?_⟩
    by_cases h4 : j = k
    · subst h4; exact h
    · exact h2 j hj (by omega)
  · exact .inr ⟨h1, j, h2, by omega, h4⟩
theorem seen_hit {l : List XRule} {u s p : Int} {k : Nat} {n : Int} (hR : rulesB l = true) (hs : seen l u s p k n) (hk : k < l.length) (h : hitB u s p l[k] = true) : seen l u s p (k + 1) (IntKind.i64.wrap (n + 1)) := by
  rcases hs with ⟨h1, h2⟩ | ⟨h1, j, h2, h3, h4⟩
  · subst h1
    exact .inr ⟨rfl, k, hk, by omega, h⟩
  · have := (rules_get hR hk).2 j h3
    rw [two_clash h4 h] at this
    cases this
theorem kinds_get {s : Int} (hs : 0 ≤ s ∧ s ≤ 3) : ([[PV.int .i64 1], [PV.int .i64 2], [PV.int .i64 3], [PV.int .i64 4]] : List (List PV))[s.toNat]? = some [PV.int .i64 (s + 1)] := by
  have : s = 0 ∨ s = 1 ∨ s = 2 ∨ s = 3 := by omega
  rcases this with rfl | rfl | rfl | rfl <;> rfl
theorem law_FnWindows (code : List Int) (hw : ∀ q0, q0 ∈ code → (Lit.int .u8 q0).wf = true) : PureC Try.prog 3 [bytesV code] [boolv true] := by
  refine pureC_of (Γ := lookT tbl) (il := ilist) tg dr Try.func3 rfl (by kernel_rfl) rfl (Nat.le_of_ble_eq_true rfl) ?_
  conv => whnf
  refine call_i (l_big code) ?_
  conv => whnf
  refine br_i (fun h => ?_) (fun h => ?_)
  · conv => whnf
    exact leaf_i rfl rfl rfl
  have hlc : code.length ≤ 1048576 := by simp [bigB] at h; omega
  conv => whnf
  refine inl_nd (Γ := lookT tbl) [22] ?_
  conv => whnf
  refine nd_i (d_RuleAt code hlc) ?_
  rintro _ ⟨l, u, s, p, rfl, hl, hu, hs, hp⟩
  conv => whnf
  refine call_i (m_RuleAt l u s p) ?_
  conv => whnf
  refine call_i (s_RuleAt l u s p) ?_
  conv => whnf
  refine br_i (fun h => absurd h (by simp)) (fun _ => ?_)
  conv => whnf
  refine call_i (s_RulesOk l) ?_
  have hM := m_RulesOk l
  cases hR : rulesB l with
  | false =>
    rw [hR] at hM
    conv => whnf
    refine call_i hM ?_
    conv => whnf
    exact leaf_i rfl rfl rfl
  | true =>
    conv => whnf
    refine loop_i (fun s' : Nat × Int => ⟨envL [(3, .c (.row 0)), (4, .c (.pv (.int .i64 u))), (5, .c (.pv (.int .i64 s))), (6, .c (.pv (.int .i64 p))), (7, .c (.pv (.int .i64 (ruleAt l u s p)))), (8, .c (.pv (.int .i64 s'.2))), (9, .c (.pv (.int .i64 s'.1)))], resL [(0, .row true 7 (l.map XRule.ps))], 1, 162⟩) (fun s' => s'.1 ≤ l.length ∧ seen l u s p s'.1 s'.2) (fun s' => l.length - s'.1) (0, 0) ⟨Nat.zero_le _, .inl ⟨rfl, fun j _ h => absurd h (by omega)⟩⟩
      (le_mk [(0, _)] rfl ⟨⟨rfl, rfl⟩, ⟨rfl, rfl⟩, ⟨rfl, rfl⟩, ⟨rfl, rfl⟩, ⟨rfl, rfl⟩, ⟨rfl, rfl⟩, ⟨rfl, rfl⟩, trivial⟩ ⟨⟨rfl, rfl⟩, trivial⟩ rfl) ?_
    rintro ⟨k, n⟩ ⟨hk, hn⟩
    dsimp only at hk hn
    conv => whnf
    refine br_i (fun h => ?_) (fun h => ?_)
    · have hlt : k < l.length := by simpa using h
      have hk2 : k < (l.map XRule.ps).length := by rw [List.length_map]; exact hlt
      have hgt : (l.map XRule.ps)[k]? = some (XRule.ps l[k]) := by rw [List.getElem?_map, List.getElem?_eq_getElem hlt]; rfl
      have no := seen_no hn hlt
      have yes := seen_hit hR hn hlt
      clear h
      generalize l[k] = r at *
      have fy : (r.Unit == u) = true → (r.Space == s) = true → decide (r.Lo ≤ p) = true → decide (p ≤ r.Hi) = true → hitB u s p r = true := fun h1 h2 h3 h4 => by simp [hitB, inB] at *; omega
      have f1 : (r.Unit == u) = false → hitB u s p r = false := fun h1 => by simp [hitB] at *; omega
      have f2 : (r.Space == s) = false → hitB u s p r = false := fun h1 => by simp [hitB] at *; omega
      have f3 : decide (r.Lo ≤ p) = false → hitB u s p r = false := fun h1 => by simp [hitB, inB] at *; omega
      have f4 : decide (p ≤ r.Hi) = false → hitB u s p r = false := fun h1 => by simp [hitB, inB] at *; omega
      (repeat' ((conv => whnf); first | refine br_i (fun _ => ?_) (fun _ => ?_) | (refine cur_leaf rfl rfl rfl ?_ ?_; · first | assumption | omega | exact hw ‹_›) | refine leaf_i rfl rfl ?_ | refine And.intro rfl ?_ | ((refine ⟨k, ⟨⟨rfl, hk2⟩, rfl⟩, ?_⟩)) | ((refine ⟨_, ⟨rfl, hgt⟩, ?_⟩)) | (refine And.intro ?_ ?_; · decide)))
      all_goals (conv => whnf)
      · exact ⟨(k + 1, IntKind.i64.wrap (n + 1)), ⟨⟨hlt, yes (fy ‹_› ‹_› ‹_› ‹_›)⟩, by show l.length - (k + 1) < l.length - k; omega⟩, le_mk [] rfl ⟨⟨rfl, rfl⟩, ⟨rfl, rfl⟩, ⟨rfl, rfl⟩, ⟨rfl, rfl⟩, ⟨rfl, rfl⟩, ⟨rfl, rfl⟩, ⟨ctr (by omega), rfl⟩, trivial⟩ ⟨⟨rfl, rfl⟩, trivial⟩ rfl⟩
      all_goals
        have hno : hitB u s p r = false := by first | exact f4 ‹_› | exact f3 ‹_› | exact f2 ‹_› | exact f1 ‹_›
        exact ⟨(k + 1, n), ⟨⟨hlt, no hno⟩, by show l.length - (k + 1) < l.length - k; omega⟩, le_mk [] rfl ⟨⟨rfl, rfl⟩, ⟨rfl, rfl⟩, ⟨rfl, rfl⟩, ⟨rfl, rfl⟩, ⟨rfl, rfl⟩, ⟨rfl, rfl⟩, ⟨ctr (by omega), rfl⟩, trivial⟩ ⟨⟨rfl, rfl⟩, trivial⟩ rfl⟩
    · have hk3 : k = l.length := by have := dge h; rw [List.length_map] at this; omega
      subst hk3
      conv => whnf
      have hsn : s.toNat < 4 := by omega
      refine ⟨s.toNat, ⟨⟨by omega, hsn⟩, rfl⟩, ?_⟩
      conv => whnf
      refine ⟨_, ⟨rfl, kinds_get hs⟩, ?_⟩
      conv => whnf
      have hP := m_Parts l u ⟨s + 1, p, 1, [], [], 0⟩ (fun h => absurd h (by show s + 1 ≠ 23; omega))
      rcases hn with ⟨rfl, hn⟩ | ⟨rfl, j, hj, _, hn⟩
      · obtain ⟨w1, e, w2, he⟩ := win_none hR hs hp (fun k hk => hn k hk hk)
        rw [w2] at hP
        dsimp only at hP
        refine call_i hP ?_
        rw [w1]
        conv => whnf
        rcases he with rfl | rfl
        · conv => whnf
          exact leaf_i rfl rfl rfl
        · conv => whnf
          exact leaf_i rfl rfl rfl
      · obtain ⟨w1, w2, w3, w4⟩ := win_one hR hs hp hj hn
        rw [w2] at hP
        dsimp only at hP
        refine call_i hP ?_
        rw [w1]
        have hj2 : j < (l.map XRule.ps).length := by rw [List.length_map]; exact hj
        have hgj : (l.map XRule.ps)[j]? = some (XRule.ps l[j]) := by rw [List.getElem?_map, List.getElem?_eq_getElem hj]; rfl
        generalize l[j] = r at *
        (repeat' ((conv => whnf); first | refine br_i (fun _ => ?_) (fun _ => ?_) | (refine cur_leaf rfl rfl rfl ?_ ?_; · first | assumption | omega | exact hw ‹_›) | refine leaf_i rfl rfl ?_ | refine And.intro rfl ?_ | ((refine ⟨0, ⟨⟨rfl, Nat.succ_pos _⟩, rfl⟩, ?_⟩)) | ((refine ⟨j, ⟨⟨rfl, hj2⟩, rfl⟩, ?_⟩)) | ((refine ⟨_, ⟨rfl, hgj⟩, ?_⟩)) | ((refine ⟨_, ⟨rfl, rfl⟩, ?_⟩)) | (refine And.intro ?_ ?_; · decide)))
        · show [VV.one (PV.bool (p + r.Shift == IntKind.i64.wrap (p + r.Shift)))] = _
          rw [wrap_ok (x := p + r.Shift) w3 w4, show (p + r.Shift == p + r.Shift) = true by simp]
          rfl
        all_goals
          exfalso
          rename_i h
          simp at h

end Go.Proofs.Ytdgmaaiijkoedaa
