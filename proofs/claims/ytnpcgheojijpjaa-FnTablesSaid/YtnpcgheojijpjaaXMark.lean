/- Marks, written and found again. -/
import Derived.Test.YtnpcgheojijpjaaXHelp
namespace Go.Proofs.Ytnpcgheojijpjaa
open Go Go.Vi
set_option linter.unusedVariables false
set_option linter.unusedSimpArgs false
set_option maxRecDepth 100000

end Go.Proofs.Ytnpcgheojijpjaa
