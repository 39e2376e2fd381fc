/- Marks, written and found again. -/
import Derived.Test.YtciiiandmpjndaaXHelp
namespace Go.Proofs.Ytciiiandmpjndaa
open Go Go.Vi
set_option linter.unusedVariables false
set_option linter.unusedSimpArgs false
set_option maxRecDepth 100000

end Go.Proofs.Ytciiiandmpjndaa
