/- Contracts of the laws' own conversions. -/
import Derived.Test.YtjjghmmpfnlpaaaLawI
import Derived.Test.YtjjghmmpfnlpaaaArgs
import Derived.Test.YtjjghmmpfnlpaaaKeep
namespace Go.Proofs.Ytjjghmmpfnlpaaa
open Go.ChangeShapes Go.WideShapes Go.ChangeAt Go.RowKit
set_option linter.unusedVariables false
end Go.Proofs.Ytjjghmmpfnlpaaa
