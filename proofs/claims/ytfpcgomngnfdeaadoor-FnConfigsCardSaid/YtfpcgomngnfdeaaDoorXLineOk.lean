/- Line: what 'ok' means, and both packages' functions. -/
import Derived.Test.YtfpcgomngnfdeaaDoorXMark
namespace Go.Proofs.YtfpcgomngnfdeaaDoor
open Go Go.Vi
set_option linter.unusedVariables false
set_option linter.unusedSimpArgs false
set_option maxRecDepth 100000
def inB (n lo hi : Int) : Bool := decide (n ≥ lo) && decide (n ≤ hi)
def word (n : Int) : Bool := inB n 0 65535
abbrev wrap64 (n : Int) : Int := IntKind.i64.wrap n
def fitsB (a n : Int) : Bool := inB a 0 65535 && decide (wrap64 (a + n) ≤ 65536)
theorem s_in (n lo hi : Int) : PureC Tryd.prog 32 [i64v n, i64v lo, i64v hi] [boolv (inB n lo hi)] := by
  refine pureC_of (Γ := lookT tbl) (il := ilist) tg dr Tryd.func32 rfl (by kernel_rfl) rfl (Nat.le_of_ble_eq_true rfl) ?_
  (repeat' ((conv => whnf); first | refine br_i (fun _ => ?_) (fun _ => ?_) | (refine cur_leaf rfl rfl rfl ?_ ?_; · first | assumption | omega | exact hw ‹_›) | refine leaf_i rfl rfl ?_ | refine And.intro rfl ?_ | (refine And.intro ?_ ?_; · decide)))
  all_goals (refine bool_leaf ?_; first | (simp_all [inB]; done) | (simp_all [inB]; omega))
def isKind (k : Int) : Bool := inB k 1 6 || k == 15 || k == 16 || k == 22 || k == 23
abbrev Rng := Int × Int
def cnt (k : Int) : Rng × Rng × Rng :=
  if k = 1 ∨ k = 2 then ((1, 2000), (0, 0), (0, 0)) else
  if k = 3 ∨ k = 4 then ((1, 125), (0, 0), (0, 0)) else
  if k = 5 then ((0, 0), (0, 0), (1, 1)) else
  if k = 6 then ((0, 0), (1, 1), (0, 0)) else
  if k = 15 then ((0, 0), (0, 0), (1, 1968)) else
  if k = 16 then ((0, 0), (1, 123), (0, 0)) else
  if k = 22 then ((0, 0), (2, 2), (0, 0)) else ((1, 125), (1, 121), (0, 0))
def rngV (r : Rng) : VV := .agg [.int .i64 r.1, .int .i64 r.2]
theorem m_in (n lo hi : Int) : PureC Tryd.prog 49 [i64v n, i64v lo, i64v hi] [boolv (inB n lo hi)] := by
  refine pureC_of (Γ := lookT tbl) (il := ilist) tg dr Tryd.func49 rfl (by kernel_rfl) rfl (Nat.le_of_ble_eq_true rfl) ?_
  (repeat' ((conv => whnf); first | refine br_i (fun _ => ?_) (fun _ => ?_) | (refine cur_leaf rfl rfl rfl ?_ ?_; · first | assumption | omega | exact hw ‹_›) | refine leaf_i rfl rfl ?_ | refine And.intro rfl ?_ | (refine And.intro ?_ ?_; · decide)))
  all_goals (refine bool_leaf ?_; first | (simp_all [inB]; done) | (simp_all [inB]; omega))
theorem m_word (n : Int) : PureC Tryd.prog 62 [i64v n] [boolv (word n)] := by
  refine pureC_of (Γ := lookT tbl) (il := ilist) tg dr Tryd.func62 rfl (by kernel_rfl) rfl (Nat.le_of_ble_eq_true rfl) ?_
  (repeat' ((conv => whnf); first | refine br_i (fun _ => ?_) (fun _ => ?_) | (refine cur_leaf rfl rfl rfl ?_ ?_; · first | assumption | omega | exact hw ‹_›) | refine leaf_i rfl rfl ?_ | refine And.intro rfl ?_ | refine call_i (m_in _ _ _) ?_ | (refine Or.inl ?_; (conv => whnf); refine call_i (m_in _ _ _) ?_) | (refine And.intro ?_ ?_; · decide)))
  all_goals rfl
theorem m_unit (n : Int) : PureC Tryd.prog 61 [i64v n] [boolv (inB n 1 247)] := by
  refine pureC_of (Γ := lookT tbl) (il := ilist) tg dr Tryd.func61 rfl (by kernel_rfl) rfl (Nat.le_of_ble_eq_true rfl) ?_
  (repeat' ((conv => whnf); first | refine br_i (fun _ => ?_) (fun _ => ?_) | (refine cur_leaf rfl rfl rfl ?_ ?_; · first | assumption | omega | exact hw ‹_›) | refine leaf_i rfl rfl ?_ | refine And.intro rfl ?_ | refine call_i (m_in _ _ _) ?_ | (refine Or.inl ?_; (conv => whnf); refine call_i (m_in _ _ _) ?_) | (refine And.intro ?_ ?_; · decide)))
  all_goals rfl
theorem m_wait (a b : Int) : PureC Tryd.prog 34 [i64v a, i64v b] [boolv (inB a 1 100 && inB b 0 5)] := by
  refine pureC_of (Γ := lookT tbl) (il := ilist) tg dr Tryd.func34 rfl (by kernel_rfl) rfl (Nat.le_of_ble_eq_true rfl) ?_
  (repeat' ((conv => whnf); first | refine br_i (fun _ => ?_) (fun _ => ?_) | (refine cur_leaf rfl rfl rfl ?_ ?_; · first | assumption | omega | exact hw ‹_›) | refine leaf_i rfl rfl ?_ | refine And.intro rfl ?_ | refine call_i (m_in _ _ _) ?_ | (refine Or.inl ?_; (conv => whnf); refine call_i (m_in _ _ _) ?_) | (refine And.intro ?_ ?_; · decide)))
  all_goals (refine bool_leaf ?_; first | (simp_all []; done) | (simp_all []; omega))
end Go.Proofs.YtfpcgomngnfdeaaDoor
