/- LineNew: both packages' functions, and the law. -/
import Derived.Test.YtfpcgomngnfdeaaXRules
namespace Go.Proofs.Ytfpcgomngnfdeaa
open Go Go.Vi
set_option linter.unusedVariables false
set_option linter.unusedSimpArgs false
set_option maxRecDepth 100000
def lineNew (a b : Int) : XLine := if inB a 1 100 && inB b 0 5 then { XLine.zero with Wait := a, Tries := b } else XLine.zero
theorem s_LineNew (a b : Int) : PureC Try.prog 15 [i64v a, i64v b] [(lineNew a b).v] := by
  refine pureC_of (Γ := lookT tbl) (il := ilist) tg dr Try.func15 rfl (by kernel_rfl) rfl (Nat.le_of_ble_eq_true rfl) ?_
  (repeat' ((conv => whnf); first | refine br_i (fun _ => ?_) (fun _ => ?_) | (refine cur_leaf rfl rfl rfl ?_ ?_; · first | assumption | omega | exact hw ‹_›) | refine leaf_i rfl rfl ?_ | refine And.intro rfl ?_ | refine call_i (s_in _ _ _) ?_ | (refine Or.inl ?_; (conv => whnf); refine call_i (s_in _ _ _) ?_) | (refine And.intro ?_ ?_; · decide)))
  all_goals (cases h1 : inB a 1 100 <;> cases h2 : inB b 0 5 <;> simp_all [lineNew] <;> rfl)
theorem m_LineNew (a b : Int) : PureC Try.prog 19 [i64v a, i64v b] [(lineNew a b).v] := by
  refine pureC_of (Γ := lookT tbl) (il := ilist) tg dr Try.func19 rfl (by kernel_rfl) rfl (Nat.le_of_ble_eq_true rfl) ?_
  (repeat' ((conv => whnf); first | refine br_i (fun _ => ?_) (fun _ => ?_) | (refine cur_leaf rfl rfl rfl ?_ ?_; · first | assumption | omega | exact hw ‹_›) | refine leaf_i rfl rfl ?_ | refine And.intro rfl ?_ | refine call_i (m_wait _ _) ?_ | (refine Or.inl ?_; (conv => whnf); refine call_i (m_wait _ _) ?_) | (refine And.intro ?_ ?_; · decide)))
  all_goals (cases h1 : inB a 1 100 <;> cases h2 : inB b 0 5 <;> simp_all [lineNew] <;> rfl)
end Go.Proofs.Ytfpcgomngnfdeaa
