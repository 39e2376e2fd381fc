-- Written by a program of this session (myprint.py over the kit's print).
import Derived.Test.YtjjfjeoajhdlcaaPFnExactRuleAtx0
import Derived.Test.YtjjfjeoajhdlcaaPFnExactRuleAtx1
import Derived.Test.YtjjfjeoajhdlcaaPFnExactRuleAtx2
import Derived.Test.YtjjfjeoajhdlcaaPFnExactRuleAtx3
import Derived.Test.YtjjfjeoajhdlcaaPFnExactRuleAtx4
namespace Go.Proofs.Ytjjfjeoajhdlcaa.PFnExactRuleAt
open Go.RowKit Go.Proofs.YtjjfjeoajhdlcaaW.PrintWords Go.Proofs.YtjjfjeoajhdlcaaW.PrintLast Go.Proofs.YtjjfjeoajhdlcaaW.PrintMore
attribute [local go_sem] max2_int min2_int max_two min_two max_three min_three max_four min_four   -- for this text's walks alone
set_option linter.unusedVariables false
set_option linter.unusedSimpArgs false

end Go.Proofs.Ytjjfjeoajhdlcaa.PFnExactRuleAt
