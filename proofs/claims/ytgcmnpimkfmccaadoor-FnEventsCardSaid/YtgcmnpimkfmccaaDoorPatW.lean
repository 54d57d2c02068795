/- Contracts on patterns: ground states, the code of a pattern, bridges. -/
import Derived.Test.YtgcmnpimkfmccaaDoorPatV
namespace Go.Proofs.YtgcmnpimkfmccaaDoor
open Go.ChangeShapes Go.WideShapes Go.ChangeAt Go.RowKit
set_option linter.unusedVariables false
set_option linter.unusedSimpArgs false
end Go.Proofs.YtgcmnpimkfmccaaDoor
