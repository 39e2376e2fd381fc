-- Written by a program of this session (myprint.py over the kit's print).
import Derived.Test.YtgbpcljilceicaaPFnExactPortOkx0
import Derived.Test.YtgbpcljilceicaaPFnExactPortOkx1
import Derived.Test.YtgbpcljilceicaaPFnExactPortOkx2
import Derived.Test.YtgbpcljilceicaaPFnExactPortOkx3
import Derived.Test.YtgbpcljilceicaaPFnExactPortOkx4
import Derived.Test.YtgbpcljilceicaaPFnExactPortOkx5
import Derived.Test.YtgbpcljilceicaaPFnExactPortOkx6
namespace Go.Proofs.Ytgbpcljilceicaa.PFnExactPortOk
open Go.RowKit Go.Proofs.YtgbpcljilceicaaW.PrintWords Go.Proofs.YtgbpcljilceicaaW.PrintLast Go.Proofs.YtgbpcljilceicaaW.PrintMore
attribute [local go_sem] max2_int min2_int max_two min_two max_three min_three max_four min_four   -- for this text's walks alone
set_option linter.unusedVariables false
set_option linter.unusedSimpArgs false

end Go.Proofs.Ytgbpcljilceicaa.PFnExactPortOk
