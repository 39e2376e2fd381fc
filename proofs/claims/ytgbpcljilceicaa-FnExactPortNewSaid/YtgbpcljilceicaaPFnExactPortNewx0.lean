-- Written by a program of this session (myprint.py over the kit's print).
import Derived.Test.YtgbpcljilceicaaProg
import Derived.Below
import Derived.Deep.Draws
import Derived.Deep.AppendLies
import Derived.Maps.AppendAt
import Derived.OwnWalk
import Derived.Laws.BytesArg
import Derived.Laws.MakeOwn
import Derived.Laws.OwnMore
import Derived.Deep.OwnRows
import Derived.Tactics
import Derived.Lib.ConvBytes
import Derived.Laws.Slices
import Derived.WalkKit
import Derived.KernelRfl
import Derived.RowKit3
import Derived.Deep.LoopGhost
import Derived.Deep.QuietTactic
import Derived.BigQuiet
import Derived.WideLaws
import Derived.Deep.DeepCutAuto
import Derived.Deep.CutBlock
import Derived.Deep.RegionHeld3
import Derived.Laws.Rows
import Derived.Lib.AppendStr
import Derived.ArgAppend
import Derived.Laws.IdiomCopy
import Derived.OrdersHeld
import Derived.Laws.BitsLemmas
import Derived.RowKit
import Derived.Lib.SliceRun
import Derived.Test.YtgbpcljilceicaaWWords
import Derived.Test.YtgbpcljilceicaaWLast
import Derived.Test.YtgbpcljilceicaaWQPut
import Derived.Test.YtgbpcljilceicaaWApart
import Derived.Test.YtgbpcljilceicaaWArr
import Derived.Test.YtgbpcljilceicaaWZeros
import Derived.Test.YtgbpcljilceicaaWFoot
import Derived.Test.YtgbpcljilceicaaWKept
import Derived.Test.YtgbpcljilceicaaWShare
import Derived.Test.YtgbpcljilceicaaWN
import Derived.Test.YtgbpcljilceicaaWRepsOne
import Derived.Test.YtgbpcljilceicaaWGuard
import Derived.Test.YtgbpcljilceicaaWNEv
import Derived.Test.YtgbpcljilceicaaWMore
namespace Go.Proofs.Ytgbpcljilceicaa.PFnExactPortNew
open Go.RowKit Go.Proofs.YtgbpcljilceicaaW.PrintWords Go.Proofs.YtgbpcljilceicaaW.PrintLast Go.Proofs.YtgbpcljilceicaaW.PrintMore
attribute [local go_sem] max2_int min2_int max_two min_two max_three min_three max_four min_four   -- for this text's walks alone
set_option linter.unusedVariables false
set_option linter.unusedSimpArgs false



def errW : Option Int → Value
  | none => .nilIface
  | some c => .iface 0 (.int .i64 c)
theorem errW_none : errW none = .nilIface := rfl
theorem errW_some (c : Int) : errW (some c) = .iface 0 (.int .i64 c) := rfl

-- the values' own types

end Go.Proofs.Ytgbpcljilceicaa.PFnExactPortNew
