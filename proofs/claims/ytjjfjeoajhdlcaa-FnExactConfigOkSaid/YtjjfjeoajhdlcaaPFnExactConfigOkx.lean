-- Written by a program of this session (myprint.py over the kit's print).
import Derived.Test.YtjjfjeoajhdlcaaPFnExactConfigOkx0
import Derived.Test.YtjjfjeoajhdlcaaPFnExactConfigOkx1
import Derived.Test.YtjjfjeoajhdlcaaPFnExactConfigOkx2
import Derived.Test.YtjjfjeoajhdlcaaPFnExactConfigOkx3
import Derived.Test.YtjjfjeoajhdlcaaPFnExactConfigOkx4
namespace Go.Proofs.Ytjjfjeoajhdlcaa.PFnExactConfigOk
open Go.RowKit Go.Proofs.YtjjfjeoajhdlcaaW.PrintWords Go.Proofs.YtjjfjeoajhdlcaaW.PrintLast Go.Proofs.YtjjfjeoajhdlcaaW.PrintMore
attribute [local go_sem] max2_int min2_int max_two min_two max_three min_three max_four min_four   -- for this text's walks alone
set_option linter.unusedVariables false
set_option linter.unusedSimpArgs false

end Go.Proofs.Ytjjfjeoajhdlcaa.PFnExactConfigOk
