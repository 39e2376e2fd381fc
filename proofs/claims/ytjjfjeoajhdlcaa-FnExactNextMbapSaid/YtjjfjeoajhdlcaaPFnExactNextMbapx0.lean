-- Written by a program of this session (myprint.py over the kit's print).
import Derived.Test.YtjjfjeoajhdlcaaProg
import Derived.Below
import Derived.Deep.Draws
import Derived.Deep.AppendLies
import Derived.Maps.AppendAt
import Derived.OwnWalk
import Derived.Laws.BytesArg
import Derived.Laws.MakeOwn
import Derived.Laws.OwnMore
import Derived.Deep.OwnRows
import Derived.Tactics
import Derived.Lib.ConvBytes
import Derived.Laws.Slices
import Derived.WalkKit
import Derived.KernelRfl
import Derived.RowKit3
import Derived.Deep.LoopGhost
import Derived.Deep.QuietTactic
import Derived.BigQuiet
import Derived.WideLaws
import Derived.Deep.DeepCutAuto
import Derived.Deep.CutBlock
import Derived.Deep.RegionHeld3
import Derived.Laws.Rows
import Derived.Lib.AppendStr
import Derived.ArgAppend
import Derived.Laws.IdiomCopy
import Derived.OrdersHeld
import Derived.Laws.BitsLemmas
import Derived.RowKit
import Derived.Lib.SliceRun
import Derived.Test.YtjjfjeoajhdlcaaWHand
import Derived.Test.YtjjfjeoajhdlcaaWWords
import Derived.Test.YtjjfjeoajhdlcaaWLast
import Derived.Test.YtjjfjeoajhdlcaaWTab
import Derived.Test.YtjjfjeoajhdlcaaWFour
import Derived.Test.YtjjfjeoajhdlcaaWQPut
import Derived.Test.YtjjfjeoajhdlcaaWApart
import Derived.Test.YtjjfjeoajhdlcaaWArr
import Derived.Test.YtjjfjeoajhdlcaaWZeros
import Derived.Test.YtjjfjeoajhdlcaaWFoot
import Derived.Test.YtjjfjeoajhdlcaaWKept
import Derived.Test.YtjjfjeoajhdlcaaWShare
import Derived.Test.YtjjfjeoajhdlcaaWN
import Derived.Test.YtjjfjeoajhdlcaaWFootNe
import Derived.Test.YtjjfjeoajhdlcaaWAt
import Derived.Test.YtjjfjeoajhdlcaaWEqStruct
import Derived.Test.YtjjfjeoajhdlcaaWRepsOne
import Derived.Test.YtjjfjeoajhdlcaaWInv
import Derived.Test.YtjjfjeoajhdlcaaWInvWords
import Derived.Test.YtjjfjeoajhdlcaaWGuard
import Derived.Test.YtjjfjeoajhdlcaaWNEv
import Derived.Test.YtjjfjeoajhdlcaaWMore
namespace Go.Proofs.Ytjjfjeoajhdlcaa.PFnExactNextMbap
open Go.RowKit Go.Proofs.YtjjfjeoajhdlcaaW.PrintWords Go.Proofs.YtjjfjeoajhdlcaaW.PrintLast Go.Proofs.YtjjfjeoajhdlcaaW.PrintMore
attribute [local go_sem] max2_int min2_int max_two min_two max_three min_three max_four min_four   -- for this text's walks alone
set_option linter.unusedVariables false
set_option linter.unusedSimpArgs false



def errW : Option Int → Value
  | none => .nilIface
  | some c => .iface 0 (.int .i64 c)
theorem errW_none : errW none = .nilIface := rfl
theorem errW_some (c : Int) : errW (some c) = .iface 0 (.int .i64 c) := rfl

theorem info5 : (Try.prog.info? 5).map (fun i => (i.zero, i.size, i.bytes)) = some (some (.int .u8 0), 1, 1) := by kernel_rfl
-- the values' own types

end Go.Proofs.Ytjjfjeoajhdlcaa.PFnExactNextMbap
