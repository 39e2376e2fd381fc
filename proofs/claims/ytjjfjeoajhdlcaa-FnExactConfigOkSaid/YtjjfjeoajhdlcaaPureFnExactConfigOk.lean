/- The pure statement of the law FnExactConfigOk: with rounds enough it tells true of every argument that can be read. Its parts: what the printed functions tell. -/
import Derived.Test.YtjjfjeoajhdlcaaPFnExactConfigOkx
import Derived.Test.YtjjfjeoajhdlcaaWPure
set_option linter.unusedVariables false
set_option linter.unusedSimpArgs false
namespace Go.Proofs.Ytjjfjeoajhdlcaa.Pure
open Go.RowKit Go.Proofs.Ytjjfjeoajhdlcaa.PFnExactConfigOk Go.Proofs.YtjjfjeoajhdlcaaW.PrintWords Go.Proofs.YtjjfjeoajhdlcaaW.PrintLast Go.Proofs.YtjjfjeoajhdlcaaW.Pure Go.Proofs.YtjjfjeoajhdlcaaW.Hand

theorem laws_toRule_eq (x0 : Int) (x1 : Int) (x2 : Int) (x3 : Int) (x4 : Int) (x5 : Int) (x6 : Int) : laws_toRule.f x0 x1 x2 x3 x4 x5 x6 = some (x0, x1, x2, x3, x4, x5, x6) := by
  simp [laws_toRule.f]

theorem laws_eqRule_eq (x0 : Int) (x1 : Int) (x2 : Int) (x3 : Int) (x4 : Int) (x5 : Int) (x6 : Int) : laws_eqRule.f x0 x1 x2 x3 x4 x5 x6 x0 x1 x2 x3 x4 x5 x6 = some true := by
  (simp [laws_eqRule.f])

theorem spec_l1In_eq (a b c : Int) : spec_l1In.f a b c = some (decide (b ≤ a ∧ a ≤ c)) := by
  simp only [spec_l1In.f]
  split
  · congr 1; simp only [decide_eq_decide]; omega
  · congr 1; symm; simp only [decide_eq_false_iff_not]; omega

theorem impl_in_eq (a b c : Int) : impl_in.f a b c = some (decide (b ≤ a ∧ a ≤ c)) := by
  simp only [impl_in.f]
  split
  · congr 1; simp only [decide_eq_decide]; omega
  · congr 1; symm; simp only [decide_eq_false_iff_not]; omega

theorem impl_isWord_eq (a : Int) : impl_isWord.f a = some (decide (0 ≤ a ∧ a ≤ 65535)) := by
  simp only [impl_isWord.f, impl_in_eq, Option.bind_some]

theorem laws_szRuleS_ok (l : List S76) (left : Int) (h0 : 0 ≤ left) (h1 : left ≤ 1048576) (hl : l.length ≤ 9223372036854775807) : ∃ r, laws_szRuleS.f l left = some r ∧ (0 ≤ r → r ≤ left ∧ l.length ≤ 1048576) := by
  simp only [laws_szRuleS.f]
  rw [wrap_id (by omega) (by omega)]
  split
  · exact ⟨_, rfl, fun h => by omega⟩
  · exact ⟨_, rfl, fun h => by omega⟩

def cRule (x : S76) : S74 := ⟨x.f0, x.f1, x.f2, x.f3, x.f4, x.f5, x.f6⟩
theorem laws_toRuleS_ev (l : List S76) (hl : l.length ≤ 1048576) : Ev (fun k => laws_toRuleS.f k l) (l.map cRule) := by
  simp only [laws_toRuleS.f]
  refine Ev.pos (by omega) (Ev.pos (by omega) ?_)
  have h := conv_ev laws_toRuleS.l0 cRule l z74 (by omega) (fun a i hi ha h => Ev.step (fun k => by
    simp only [laws_toRuleS.l0]
    rw [if_pos (by omega), if_pos (by omega), show rd_T76 l (i : Int) = l[i] by simp [rd_T76, hi], laws_toRule_eq, Option.bind_some, if_pos (by omega), Int.toNat_natCast]
    rfl) h) (fun a k => by
    simp only [laws_toRuleS.l0]
    rw [if_neg (by omega)])
  simpa using h

theorem laws_eqRuleS_ev (l : List S74) (hl : l.length ≤ 4611686018427387904) : Ev (fun k => laws_eqRuleS.f k l l) true := by
  simp only [laws_eqRuleS.f]
  refine Ev.pos (by first | trivial | rfl) ?_
  exact same_ev (fun k i => laws_eqRuleS.l0 k l l i) l hl (fun i hi h => Ev.step (fun k => by
    simp only [laws_eqRuleS.l0]
    rw [if_pos (by omega), if_pos (by omega), if_pos (by omega), laws_eqRule_eq, Option.bind_some, if_pos rfl]) h) (fun k => by
    simp only [laws_eqRuleS.l0]
    rw [if_neg (by omega)])

theorem impl_isUnit_eq (a : Int) : impl_isUnit.f a = some (decide (1 ≤ a ∧ a ≤ 247)) := by
  simp only [impl_isUnit.f, impl_in_eq, Option.bind_some]

theorem impl_isPort_eq (a : Int) : impl_isPort.f a = some (decide (0 ≤ a ∧ a ≤ 5)) := by
  simp only [impl_isPort.f, impl_in_eq, Option.bind_some]

def ruleOkN (a b c d e f g : Int) : Bool := decide ((1 ≤ a ∧ a ≤ 247) ∧ (0 ≤ b ∧ b ≤ 3) ∧ (0 ≤ c ∧ c ≤ 65535) ∧ (c ≤ d ∧ d ≤ 65535) ∧ (0 ≤ e ∧ e ≤ 5) ∧ (1 ≤ f ∧ f ≤ 247) ∧ (-65535 ≤ g ∧ g ≤ 65535) ∧ (0 ≤ c + g ∧ c + g ≤ 65535) ∧ (0 ≤ d + g ∧ d + g ≤ 65535))
theorem spec_l10Rule_eq (a b c d e f g : Int) : spec_l10Rule.f a b c d e f g = some (ruleOkN a b c d e f g) := by
  simp only [spec_l10Rule.f, spec_l1In_eq, Option.bind_some, decide_eq_true_eq, ruleOkN]
  by_cases hr : (0 ≤ c ∧ c ≤ 65535) ∧ (c ≤ d ∧ d ≤ 65535) ∧ (-65535 ≤ g ∧ g ≤ 65535)
  · rw [wrap_id (x := c + g) (by omega) (by omega), wrap_id (x := d + g) (by omega) (by omega)]
    repeat' split
    all_goals (congr 1; rw [Bool.eq_iff_iff]; simp only [decide_eq_true_eq, Bool.false_eq_true, false_iff]; omega)
  · repeat' split
    all_goals (congr 1; rw [Bool.eq_iff_iff]; simp only [decide_eq_true_eq, Bool.false_eq_true, false_iff]; omega)

theorem impl_ruleOk_j0 (b : Bool) (x0 x1 x2 x3 x4 x5 x6 : Int) : impl_ruleOk.j0 1 b x0 x1 x2 x3 x4 x5 x6 = some (!b && decide ((-65535 ≤ x6 ∧ x6 ≤ 65535) ∧ (0 ≤ wrap64 (x2 + x6) ∧ wrap64 (x2 + x6) ≤ 65535) ∧ (0 ≤ wrap64 (x3 + x6) ∧ wrap64 (x3 + x6) ≤ 65535))) := by
  simp only [impl_ruleOk.j0, impl_in_eq, impl_isWord_eq, Option.bind_some, decide_eq_true_eq]
  cases b with
  | true => simp
  | false =>
    rw [if_neg (by decide)]
    repeat' split
    all_goals (congr 1; rw [Bool.eq_iff_iff]; simp only [Bool.not_false, Bool.true_and, decide_eq_true_eq, Bool.false_eq_true, false_iff]; omega)
theorem impl_ruleOk_eq (a b c d e f g : Int) : impl_ruleOk.f 1 a b c d e f g = some (ruleOkN a b c d e f g) := by
  simp only [impl_ruleOk.f, impl_ruleOk_j0, impl_in_eq, impl_isWord_eq, impl_isUnit_eq, impl_isPort_eq, Option.bind_some, decide_eq_true_eq, ruleOkN]
  by_cases hr : (0 ≤ c ∧ c ≤ 65535) ∧ (c ≤ d ∧ d ≤ 65535) ∧ (-65535 ≤ g ∧ g ≤ 65535)
  · rw [wrap_id (x := c + g) (by omega) (by omega), wrap_id (x := d + g) (by omega) (by omega)]
    repeat' split
    all_goals (congr 1; rw [Bool.eq_iff_iff]; simp only [Bool.not_true, Bool.false_and, Bool.not_not, Bool.and_eq_true, decide_eq_true_eq, Bool.false_eq_true, false_iff]; omega)
  · repeat' split
    all_goals (congr 1; rw [Bool.eq_iff_iff]; simp only [Bool.not_true, Bool.false_and, Bool.not_not, Bool.and_eq_true, decide_eq_true_eq, Bool.false_eq_true, false_iff]; omega)

def okAt (l : List S74) (i : Nat) : Bool := ruleOkN (rd_T74 l i).f0 (rd_T74 l i).f1 (rd_T74 l i).f2 (rd_T74 l i).f3 (rd_T74 l i).f4 (rd_T74 l i).f5 (rd_T74 l i).f6 && !(l.take i).any (impl_RulesOk.p (rd_T74 l i))
def allFrom (l : List S74) : Nat → Nat → Bool
  | 0, _ => true
  | d + 1, i => okAt l i && allFrom l d (i + 1)
def rulesN (l : List S74) : Bool := decide ((l.length : Int) ≤ 24) && allFrom l l.length 0
theorem impl_RulesOk_go (l : List S74) (d i : Nat) : impl_RulesOk.go l d i = some (decide ((l.length : Int) ≤ 24) && allFrom l d i) := by
  induction d generalizing i with
  | zero => simp [impl_RulesOk.go, allFrom]
  | succ d ih =>
    simp only [impl_RulesOk.go, impl_ruleOk_eq, Option.bind_some, allFrom, okAt, ih]
    cases ruleOkN (rd_T74 l i).f0 (rd_T74 l i).f1 (rd_T74 l i).f2 (rd_T74 l i).f3 (rd_T74 l i).f4 (rd_T74 l i).f5 (rd_T74 l i).f6 with
    | false => simp
    | true => cases (l.take i).any (impl_RulesOk.p (rd_T74 l i)) <;> simp
theorem impl_RulesOk_eq (l : List S74) : impl_RulesOk.f l = some (rulesN l) := impl_RulesOk_go l l.length 0
theorem spec_RulesOk_ev (l : List S74) (hl : l.length ≤ 4611686018427387904) : Ev (fun k => spec_RulesOk.f k l) (rulesN l) := by
  simp only [spec_RulesOk.f, rulesN]
  refine Ev.ite (fun h => Ev.eq (Ev.now _) (by simp; omega)) (fun h => ?_)
  have h24 : (l.length : Int) ≤ 24 := by omega
  rw [decide_eq_true h24, Bool.true_and]
  have key : ∀ d i, i + d = l.length → Ev (fun k => spec_RulesOk.l0 k l (i : Int)) (allFrom l d i) := by
    intro d
    induction d with
    | zero =>
      intro i hi
      refine Ev.step (fun _ => rfl) ?_
      simp only [spec_RulesOk.l0]
      exact Ev.neg (by omega) (Ev.now _)
    | succ d ih =>
      intro i hi
      have hlt : i < l.length := by omega
      refine Ev.step (fun _ => rfl) ?_
      simp only [spec_RulesOk.l0, spec_l10Rule_eq, Option.bind_some]
      refine Ev.pos (by omega) (Ev.pos (by omega) ?_)
      simp only [allFrom, okAt]
      have next := ih (i + 1) (by omega)
      have ni : ((i + 1 : Nat) : Int) = (i : Int) + 1 := by omega
      rw [ni] at next
      cases ruleOkN (rd_T74 l i).f0 (rd_T74 l i).f1 (rd_T74 l i).f2 (rd_T74 l i).f3 (rd_T74 l i).f4 (rd_T74 l i).f5 (rd_T74 l i).f6 with
      | false => exact Ev.neg (by decide) (Ev.eq (Ev.now _) (by simp))
      | true =>
        refine Ev.pos rfl ?_
        have inner : ∀ e j, j + e = i → (∀ j' (h : j' < j) (h2 : j' < l.length), impl_RulesOk.p (rd_T74 l i) l[j'] = false) → Ev (fun k => spec_RulesOk.l1 k l (i : Int) (j : Int)) (true && !(l.take i).any (impl_RulesOk.p (rd_T74 l i)) && allFrom l d (i + 1)) := by
          intro e
          induction e with
          | zero =>
            intro j hj hp
            refine Ev.step (fun _ => rfl) ?_
            simp only [spec_RulesOk.l1]
            rw [wrap_id (x := (i : Int) + 1) (by omega) (by omega)]
            have hf : (l.take i).any (impl_RulesOk.p (rd_T74 l i)) = false := by
              rw [List.any_eq_false]
              intro x hx
              obtain ⟨q, hq, rfl⟩ := List.getElem_of_mem hx
              rw [List.length_take] at hq
              rw [List.getElem_take, hp q (by omega) (by omega)]
              decide
            rw [hf]
            exact Ev.neg (by omega) (Ev.eq next (by simp))
          | succ e ih2 =>
            intro j hj hp
            have hj2 : j < l.length := by omega
            refine Ev.step (fun _ => rfl) ?_
            simp only [spec_RulesOk.l1]
            have er : rd_T74 l (j : Int) = l[j] := by simp [rd_T74, hj2]
            rw [er, wrap_id (x := (j : Int) + 1) (by omega) (by omega)]
            have go : impl_RulesOk.p (rd_T74 l i) l[j] = false → Ev (fun k => spec_RulesOk.l1 k l (i : Int) ((j : Int) + 1)) (true && !(l.take i).any (impl_RulesOk.p (rd_T74 l i)) && allFrom l d (i + 1)) := fun hv => by
              have := ih2 (j + 1) (by omega) (fun j' hj' hl => (Nat.lt_or_ge j' j).elim (fun h => hp j' h hl) (fun h => by obtain rfl : j' = j := Nat.le_antisymm (by omega) h; exact hv))
              simpa using this
            refine Ev.pos (by omega) (Ev.pos (by omega) (Ev.pos (by omega) (Ev.pos (by omega) (Ev.pos (by omega) ?_))))
            by_cases hv : impl_RulesOk.p (rd_T74 l i) l[j] = true
            · have ht : (l.take i).any (impl_RulesOk.p (rd_T74 l i)) = true := by
                rw [List.any_eq_true]
                refine ⟨l[j], ?_, hv⟩
                have h3 : j < (l.take i).length := by rw [List.length_take]; omega
                have := List.getElem_mem h3
                rwa [List.getElem_take] at this
              rw [ht]
              simp only [impl_RulesOk.p, Bool.and_eq_true, beq_iff_eq, decide_eq_true_eq] at hv
              exact Ev.pos hv.1 (Ev.pos hv.2.1 (Ev.pos hv.2.2.1 (Ev.pos hv.2.2.2 (Ev.eq (Ev.now _) (by simp)))))
            · have hv2 : impl_RulesOk.p (rd_T74 l i) l[j] = false := by simpa using hv
              simp only [impl_RulesOk.p, Bool.and_eq_true, beq_iff_eq, decide_eq_true_eq] at hv
              exact Ev.ite (fun h1 => Ev.ite (fun h2 => Ev.ite (fun h3 => Ev.neg (fun h4 => hv ⟨h1, h2, h3, h4⟩) (go hv2)) (fun _ => go hv2)) (fun _ => go hv2)) (fun _ => go hv2)
        exact inner i 0 (by omega) (fun j' h => absurd h (by omega))
  exact key l.length 0 (by omega)

theorem spec_ConfigOk_ev (a b : Int) (l : List S74) (hl : l.length ≤ 4611686018427387904) : Ev (fun k => spec_ConfigOk.f k a b l) (decide ((1 ≤ a ∧ a ≤ 100) ∧ (0 ≤ b ∧ b ≤ 5)) && rulesN l) := by
  simp only [spec_ConfigOk.f, spec_l1In_eq, Option.bind_some]
  refine Ev.ite (fun h1 => Ev.ite (fun h2 => Ev.bind (spec_RulesOk_ev l hl) (Ev.eq (Ev.now _) ?_)) (fun h2 => Ev.eq (Ev.now _) ?_)) (fun h1 => Ev.eq (Ev.now _) ?_)
  · rw [decide_eq_true ⟨of_decide_eq_true h1, of_decide_eq_true h2⟩, Bool.true_and]
  · rw [decide_eq_false (fun x => h2 (decide_eq_true x.2)), Bool.false_and]
  · rw [decide_eq_false (fun x => h1 (decide_eq_true x.1)), Bool.false_and]
theorem impl_ConfigOk_eq (a b : Int) (l : List S74) : impl_ConfigOk.f a b l = some (decide ((1 ≤ a ∧ a ≤ 100) ∧ (0 ≤ b ∧ b ≤ 5)) && rulesN l) := by
  simp only [impl_ConfigOk.f, impl_waitOk.f, impl_in_eq, impl_RulesOk_eq, Option.bind_some, decide_eq_true_eq]
  by_cases h1 : 1 ≤ a ∧ a ≤ 100
  · by_cases h2 : 0 ≤ b ∧ b ≤ 5
    · simp [h1, h2]
    · simp [h1, h2]
  · simp [h1]

theorem FnExactConfigOk : laws_FnExactConfigOk.Pure := by
  intro a b l _ _ w0
  refine Ev.rounds (g := fun k => laws_FnExactConfigOk.f k a b l) ?_
  simp only [laws_FnExactConfigOk.f, laws_szConfig.f, laws_toConfig.f, laws_eqConfig.f]
  obtain ⟨r, er, hr⟩ := laws_szRuleS_ok l 1048576 (by omega) (by omega) w0.1
  rw [er]
  simp only [Option.bind_some]
  by_cases hn : r < 0
  · rw [if_pos hn]
    exact Ev.then rfl (Ev.pos (by omega) (Ev.now _))
  rw [if_neg hn]
  refine Ev.then rfl (Ev.neg hn ?_)
  have hl := (hr (by omega)).2
  have hm : (l.map cRule).length ≤ 1048576 := by simpa using hl
  have hi := impl_ConfigOk_eq a b (l.map cRule)
  have hs := spec_ConfigOk_ev a b (l.map cRule) (by omega)
  generalize (decide ((1 ≤ a ∧ a ≤ 100) ∧ (0 ≤ b ∧ b ≤ 5)) && rulesN (l.map cRule)) = q at hi hs
  have hto : Ev (fun k => (laws_toRuleS.f k l).bind fun t => some (a, b, t)) (a, b, l.map cRule) := Ev.bind (laws_toRuleS_ev l hl) (Ev.now _)
  have heq : Ev (fun k => if a = a then (if b = b then ((laws_eqRuleS.f k (l.map cRule) (l.map cRule)).bind fun t => (if t = true then (some true) else (some false))) else (some false)) else (some false)) true := Ev.pos rfl (Ev.pos rfl (Ev.bind (laws_eqRuleS_ev _ (by omega)) (Ev.pos rfl (Ev.now _))))
  cases q <;> (
  repeat (first
    | exact Ev.now _
    | refine Ev.pos rfl ?_
    | refine Ev.neg (by decide) ?_
    | (refine Ev.bind hto ?_; try dsimp only)
    | (refine Ev.bind heq ?_; try dsimp only)
    | (refine Ev.bind hs ?_; try dsimp only)
    | (refine Ev.then hi ?_; try dsimp only)))

end Go.Proofs.Ytjjfjeoajhdlcaa.Pure
