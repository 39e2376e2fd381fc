/- Marks, written and found again. -/
import Derived.Test.YtknlfechpcimkaaGreatXHelp
namespace Go.Proofs.YtknlfechpcimkaaGreat
open Go Go.Vi
set_option linter.unusedVariables false
set_option linter.unusedSimpArgs false
set_option maxRecDepth 100000

end Go.Proofs.YtknlfechpcimkaaGreat
