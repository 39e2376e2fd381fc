/- laws.big alone (LawsC names the frames' hearing, which not each seat has). -/
import Derived.Test.YtciiiandmpjndaaXDrawLines
namespace Go.Proofs.Ytciiiandmpjndaa
open Go Go.Vi
set_option linter.unusedVariables false
set_option linter.unusedSimpArgs false
set_option maxRecDepth 100000
def bigB (code : List Int) : Bool := decide ((code.length : Int) > 1048576)
theorem l_big (code : List Int) : PureC Try.prog 5 [bytesV code] [boolv (bigB code)] := by
  refine pureC_of (Γ := lookT tbl) (il := ilist) tg dr Try.func5 rfl (by kernel_rfl) rfl (Nat.le_of_ble_eq_true rfl) ?_
  (repeat' ((conv => whnf); first | refine br_i (fun _ => ?_) (fun _ => ?_) | (refine cur_leaf rfl rfl rfl ?_ ?_; · first | assumption | omega | exact hw ‹_›) | refine leaf_i rfl rfl ?_ | refine And.intro rfl ?_ | (refine And.intro ?_ ?_; · decide)))
  all_goals (refine bool_leaf ?_; first | (simp_all [bigB]; done) | (simp_all [bigB]; omega))

end Go.Proofs.Ytciiiandmpjndaa
