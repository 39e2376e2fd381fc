/- The pure statement of the law FnExactRuleAt: with rounds enough it tells true of every argument that can be read. Its parts: what the printed functions tell. -/
import Derived.Test.YtjjfjeoajhdlcaaPFnExactRuleAtx
import Derived.Test.YtjjfjeoajhdlcaaWPure
set_option linter.unusedVariables false
set_option linter.unusedSimpArgs false
namespace Go.Proofs.Ytjjfjeoajhdlcaa.Pure
open Go.RowKit Go.Proofs.Ytjjfjeoajhdlcaa.PFnExactRuleAt Go.Proofs.YtjjfjeoajhdlcaaW.PrintWords Go.Proofs.YtjjfjeoajhdlcaaW.PrintLast Go.Proofs.YtjjfjeoajhdlcaaW.Pure Go.Proofs.YtjjfjeoajhdlcaaW.Hand

theorem laws_toRule_eq (x0 : Int) (x1 : Int) (x2 : Int) (x3 : Int) (x4 : Int) (x5 : Int) (x6 : Int) : laws_toRule.f x0 x1 x2 x3 x4 x5 x6 = some (x0, x1, x2, x3, x4, x5, x6) := by
  simp [laws_toRule.f]

theorem laws_eqRule_eq (x0 : Int) (x1 : Int) (x2 : Int) (x3 : Int) (x4 : Int) (x5 : Int) (x6 : Int) : laws_eqRule.f x0 x1 x2 x3 x4 x5 x6 x0 x1 x2 x3 x4 x5 x6 = some true := by
  (simp [laws_eqRule.f])

theorem spec_l1In_eq (a b c : Int) : spec_l1In.f a b c = some (decide (b ≤ a ∧ a ≤ c)) := by
  simp only [spec_l1In.f]
  split
  · congr 1; simp only [decide_eq_decide]; omega
  · congr 1; symm; simp only [decide_eq_false_iff_not]; omega

theorem impl_in_eq (a b c : Int) : impl_in.f a b c = some (decide (b ≤ a ∧ a ≤ c)) := by
  simp only [impl_in.f]
  split
  · congr 1; simp only [decide_eq_decide]; omega
  · congr 1; symm; simp only [decide_eq_false_iff_not]; omega

theorem laws_szRuleS_ok (l : List S76) (left : Int) (h0 : 0 ≤ left) (h1 : left ≤ 1048576) (hl : l.length ≤ 9223372036854775807) : ∃ r, laws_szRuleS.f l left = some r ∧ (0 ≤ r → r ≤ left ∧ l.length ≤ 1048576) := by
  simp only [laws_szRuleS.f]
  rw [wrap_id (by omega) (by omega)]
  split
  · exact ⟨_, rfl, fun h => by omega⟩
  · exact ⟨_, rfl, fun h => by omega⟩

def cRule (x : S76) : S74 := ⟨x.f0, x.f1, x.f2, x.f3, x.f4, x.f5, x.f6⟩
theorem laws_toRuleS_ev (l : List S76) (hl : l.length ≤ 1048576) : Ev (fun k => laws_toRuleS.f k l) (l.map cRule) := by
  simp only [laws_toRuleS.f]
  refine Ev.pos (by omega) (Ev.pos (by omega) ?_)
  have h := conv_ev laws_toRuleS.l0 cRule l z74 (by omega) (fun a i hi ha h => Ev.step (fun k => by
    simp only [laws_toRuleS.l0]
    rw [if_pos (by omega), if_pos (by omega), show rd_T76 l (i : Int) = l[i] by simp [rd_T76, hi], laws_toRule_eq, Option.bind_some, if_pos (by omega), Int.toNat_natCast]
    rfl) h) (fun a k => by
    simp only [laws_toRuleS.l0]
    rw [if_neg (by omega)])
  simpa using h

theorem laws_eqRuleS_ev (l : List S74) (hl : l.length ≤ 4611686018427387904) : Ev (fun k => laws_eqRuleS.f k l l) true := by
  simp only [laws_eqRuleS.f]
  refine Ev.pos (by first | trivial | rfl) ?_
  exact same_ev (fun k i => laws_eqRuleS.l0 k l l i) l hl (fun i hi h => Ev.step (fun k => by
    simp only [laws_eqRuleS.l0]
    rw [if_pos (by omega), if_pos (by omega), if_pos (by omega), laws_eqRule_eq, Option.bind_some, if_pos rfl]) h) (fun k => by
    simp only [laws_eqRuleS.l0]
    rw [if_neg (by omega)])

theorem spec_RuleAt_ev (l : List S74) (a1 a2 a3 : Int) (hl : l.length ≤ 4611686018427387904) : Ev (fun k => spec_RuleAt.f k l a1 a2 a3) (idxOf (impl_RuleAt.p a1 a2 a3) l) := by
  simp only [spec_RuleAt.f]
  have key : ∀ d i, i + d = l.length → (∀ j (hj : j < i) (hl : j < l.length), impl_RuleAt.p a1 a2 a3 l[j] = false) → Ev (fun k => spec_RuleAt.l0 k l a1 a2 a3 (i : Int)) (idxOf (impl_RuleAt.p a1 a2 a3) l) := by
    intro d
    induction d with
    | zero =>
      intro i h hp
      refine Ev.step (fun _ => rfl) ?_
      simp only [spec_RuleAt.l0]
      refine Ev.neg (by omega) (Ev.eq (Ev.now _) ?_)
      rw [idxOf_none (fun j hj => hp j (by omega) hj)]
    | succ d ih =>
      intro i h hp
      have hi : i < l.length := by omega
      refine Ev.step (fun _ => rfl) ?_
      simp only [spec_RuleAt.l0, spec_l1In_eq, Option.bind_some]
      have er : rd_T74 l (i : Int) = l[i] := by simp [rd_T74, hi]
      rw [er, wrap_id (by omega) (by omega)]
      refine Ev.pos (by omega) (Ev.pos (by omega) ?_)
      have next : impl_RuleAt.p a1 a2 a3 l[i] = false → Ev (fun k => spec_RuleAt.l0 k l a1 a2 a3 ((i : Int) + 1)) (idxOf (impl_RuleAt.p a1 a2 a3) l) := fun hv => by
        have := ih (i + 1) (by omega) (fun j hj hl => (Nat.lt_or_ge j i).elim (fun h => hp j h hl) (fun h => by obtain rfl : j = i := Nat.le_antisymm (by omega) h; exact hv))
        simpa using this
      by_cases hv : impl_RuleAt.p a1 a2 a3 l[i] = true
      · have hv' := hv
        simp only [impl_RuleAt.p, Bool.and_eq_true, beq_iff_eq, decide_eq_true_eq] at hv'
        exact Ev.pos hv'.1 (Ev.pos hv'.2.1 (Ev.pos (decide_eq_true hv'.2.2) (Ev.eq (Ev.now _) (by rw [idxOf_at i hi (fun j hj => hp j hj (by omega)) hv]))))
      · have hv2 : impl_RuleAt.p a1 a2 a3 l[i] = false := by simpa using hv
        have hv' := hv
        simp only [impl_RuleAt.p, Bool.and_eq_true, beq_iff_eq, decide_eq_true_eq] at hv'
        exact Ev.ite (fun h1 => Ev.ite (fun h2 => Ev.neg (fun x => hv' ⟨h1, h2, of_decide_eq_true x⟩) (next hv2)) (fun _ => next hv2)) (fun _ => next hv2)
  exact key l.length 0 (by omega) (fun j hj => absurd hj (by omega))

theorem FnExactRuleAt : laws_FnExactRuleAt.Pure := by
  intro l a1 a2 a3 w0 _ _ _
  refine Ev.rounds (g := fun k => laws_FnExactRuleAt.f k l a1 a2 a3) ?_
  simp only [laws_FnExactRuleAt.f]
  obtain ⟨r, er, hr⟩ := laws_szRuleS_ok l 1048576 (by omega) (by omega) w0.1
  refine Ev.then er ?_
  refine Ev.ite (fun _ => Ev.now _) (fun hn => ?_)
  have hl := (hr (by omega)).2
  have hm : (l.map cRule).length ≤ 1048576 := by simpa using hl
  repeat (first
    | exact Ev.now _
    | refine Ev.pos rfl ?_
    | (refine Ev.bind (laws_toRuleS_ev l hl) ?_; try dsimp only)
    | (refine Ev.bind (laws_eqRuleS_ev _ (by omega)) ?_; try dsimp only)
    | (refine Ev.bind (spec_RuleAt_ev _ _ _ _ (by omega)) ?_; try dsimp only)
    | (refine Ev.then (a := idxOf (impl_RuleAt.p a1 a2 a3) (l.map cRule)) rfl ?_; try dsimp only))

end Go.Proofs.Ytjjfjeoajhdlcaa.Pure
