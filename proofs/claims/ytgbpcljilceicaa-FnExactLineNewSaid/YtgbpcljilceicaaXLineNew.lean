/- LineNew: both packages' functions, and the law. -/
import Derived.Test.YtgbpcljilceicaaXLineOk
namespace Go.Proofs.Ytgbpcljilceicaa
open Go Go.Vi
set_option linter.unusedVariables false
set_option linter.unusedSimpArgs false
set_option maxRecDepth 100000
def lineNew (a b : Int) : XLine := if inB a 1 100 && inB b 0 5 then { XLine.zero with Wait := a, Tries := b } else XLine.zero
theorem s_LineNew (a b : Int) : PureC Try.prog 33 [i64v a, i64v b] [(lineNew a b).v] := by
  refine pureC_of (Γ := lookT tbl) tg dr Try.func33 rfl (by kernel_rfl) rfl (Nat.le_of_ble_eq_true rfl) ?_
  repeat' ((conv => whnf); first | refine call_i (s_in _ _ _) ?_ | refine br_i (fun _ => ?_) (fun _ => ?_) | refine leaf_i rfl rfl ?_ | refine And.intro rfl ?_ | (refine And.intro ?_ ?_; · decide))
  all_goals (cases h1 : inB a 1 100 <;> cases h2 : inB b 0 5 <;> simp_all [lineNew] <;> rfl)
theorem m_LineNew (a b : Int) : PureC Try.prog 34 [i64v a, i64v b] [(lineNew a b).v] := by
  refine pureC_of (Γ := lookT tbl) tg dr Try.func34 rfl (by kernel_rfl) rfl (Nat.le_of_ble_eq_true rfl) ?_
  repeat' ((conv => whnf); first | refine call_i (m_wait _ _) ?_ | refine br_i (fun _ => ?_) (fun _ => ?_) | refine leaf_i rfl rfl ?_ | refine And.intro rfl ?_ | (refine And.intro ?_ ?_; · decide))
  all_goals (cases h1 : inB a 1 100 <;> cases h2 : inB b 0 5 <;> simp_all [lineNew] <;> rfl)
theorem law_FnExactLineNew (a : Int) (_ : (Lit.int .i64 a).wf = true) (b : Int) (_ : (Lit.int .i64 b).wf = true) : PureC Try.prog 6 [i64v a, i64v b] [boolv true] := by
  refine pureC_deep (Γ := lookT tbl) tg drD Try.func6 rfl (by kernel_rfl) rfl (Nat.le_of_ble_eq_true rfl) rfl ?_
  generalize hx : lineNew a b = x
  have hs := s_LineNew a b
  have hm := m_LineNew a b
  rw [hx] at hs hm
  have hsc : x.sc = 0 := by rw [← hx]; unfold lineNew; split <;> rfl
  have he : PureC Try.prog 35 [x.v, x.v] [boolv true] := by simpa using eqLine x x
  obtain ⟨q1, q2, q3, M, H⟩ := mkLine x 1 (by decide) (by omega)
  (repeat' ((conv => whnf); first | exact rfl | refine br_i (fun h => absurd h (by simp)) (fun _ => ?_) | refine br_i (fun h => absurd (dlt h) (by omega)) (fun _ => ?_) | refine br_i (fun _ => ?_) (fun h => absurd h (by simp)) | refine br_i (fun _ => ?_) (fun _ => ?_) | refine And.intro rfl ?_ | (refine Or.inl ?_; (conv => whnf); refine call_i (hs) ?_) | (refine Or.inl ?_; (conv => whnf); refine call_i (hm) ?_) | (refine Or.inl ?_; (conv => whnf); refine call_i (he) ?_) | refine mark_i M rfl ?_ | (refine Or.inl ?_; (conv => whnf); refine call_i (H) ?_) | (refine And.intro ?_ ?_; · decide)); all_goals (try (conv => whnf)))

end Go.Proofs.Ytgbpcljilceicaa
