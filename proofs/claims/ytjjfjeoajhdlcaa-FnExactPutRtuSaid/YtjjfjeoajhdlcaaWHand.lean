/- Small lemmas that the printed walks of this session use. No program in sight. -/
import Derived.Lib.SliceRun
import Derived.Test.YtjjfjeoajhdlcaaWWords
namespace Go.Proofs.YtjjfjeoajhdlcaaW.Hand
open Go.Proofs.YtjjfjeoajhdlcaaW.PrintWords Go.RowKit

theorem len_same {α : Type} (l : List α) (x : Bool) (h : (x == decide ((l.length : Int) > 0)) = true) : (l = []) = (x = false) := by
  cases l <;> cases x <;> simp_all
theorem len_other {α : Type} (l : List α) (x : Bool) (h : ¬ (x == decide ((l.length : Int) > 0)) = true) : (l = []) = (x = true) := by
  cases l <;> cases x <;> simp_all
end Go.Proofs.YtjjfjeoajhdlcaaW.Hand
