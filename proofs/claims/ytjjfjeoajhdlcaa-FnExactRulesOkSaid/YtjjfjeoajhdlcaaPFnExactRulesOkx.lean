-- Written by a program of this session (myprint.py over the kit's print).
import Derived.Test.YtjjfjeoajhdlcaaPFnExactRulesOkx0
import Derived.Test.YtjjfjeoajhdlcaaPFnExactRulesOkx1
import Derived.Test.YtjjfjeoajhdlcaaPFnExactRulesOkx2
import Derived.Test.YtjjfjeoajhdlcaaPFnExactRulesOkx3
namespace Go.Proofs.Ytjjfjeoajhdlcaa.PFnExactRulesOk
open Go.RowKit Go.Proofs.YtjjfjeoajhdlcaaW.PrintWords Go.Proofs.YtjjfjeoajhdlcaaW.PrintLast Go.Proofs.YtjjfjeoajhdlcaaW.PrintMore
attribute [local go_sem] max2_int min2_int max_two min_two max_three min_three max_four min_four   -- for this text's walks alone
set_option linter.unusedVariables false
set_option linter.unusedSimpArgs false

end Go.Proofs.Ytjjfjeoajhdlcaa.PFnExactRulesOk
