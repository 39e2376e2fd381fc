/- StreamHear: both packages' functions, and the law. -/
import Derived.Test.YtjjfjeoajhdlcaaXConcat
namespace Go.Proofs.Ytjjfjeoajhdlcaa
open Go Go.Vi
set_option linter.unusedVariables false
set_option linter.unusedSimpArgs false
set_option maxRecDepth 100000
theorem nm_code (l : List Int) (h : (nextMbap l).code = 1) : 8 ≤ (nextMbap l).n ∧ (nextMbap l).n ≤ l.length ∧ ((nextMbap l).pdu.length : Int) = (nextMbap l).n - 7 := by
  cases hb : nmBad l with
  | true => rw [nm_bad hb] at h; cases h
  | false =>
    cases hw : nmWait l with
    | true => rw [nm_wait hb hw] at h; cases h
    | false =>
      obtain ⟨f1, f2, f3, f4⟩ := nm_fact hb hw
      rw [nm_good hb hw]
      simp only [f3]
      exact ⟨by omega, by omega, cutL_len _ _ _ (by omega)⟩
def streamOk (s : XStream) : Bool := decide ((s.Buf.length : Int) ≤ 600) && (!s.Shut || decide ((s.Buf.length : Int) = 0))
theorem s_StreamOk (s : XStream) : PureC Try.prog 16 [s.v] [boolv (streamOk s)] := by
  refine pureC_of (Γ := lookT tbl) (il := ilist) tg dr Try.func16 rfl (by kernel_rfl) rfl (Nat.le_of_ble_eq_true rfl) ?_
  (repeat' ((conv => whnf); first | refine br_i (fun _ => ?_) (fun _ => ?_) | (refine cur_leaf rfl rfl rfl ?_ ?_; · first | assumption | omega | (simp_all; done)) | refine leaf_i rfl rfl ?_ | refine And.intro rfl ?_ | (refine And.intro ?_ ?_; · decide)))
  all_goals (refine bool_leaf ?_; first | (simp_all [streamOk]; done) | (simp_all [streamOk]; omega))
theorem m_StreamOk (s : XStream) : PureC Try.prog 18 [s.v] [boolv (streamOk s)] := by
  refine pureC_of (Γ := lookT tbl) (il := ilist) tg dr Try.func18 rfl (by kernel_rfl) rfl (Nat.le_of_ble_eq_true rfl) ?_
  (repeat' ((conv => whnf); first | refine br_i (fun _ => ?_) (fun _ => ?_) | (refine cur_leaf rfl rfl rfl ?_ ?_; · first | assumption | omega | (simp_all; done)) | refine leaf_i rfl rfl ?_ | refine And.intro rfl ?_ | (refine And.intro ?_ ?_; · decide)))
  all_goals (refine bool_leaf ?_; first | (simp_all [streamOk]; done) | (simp_all [streamOk]; omega))
end Go.Proofs.Ytjjfjeoajhdlcaa
