/- Contracts on patterns: ground states, the code of a pattern, bridges. -/
import Derived.Test.YtddfdppoclnpcaaPatV
namespace Go.Proofs.Ytddfdppoclnpcaa
open Go.ChangeShapes Go.WideShapes Go.ChangeAt Go.RowKit
set_option linter.unusedVariables false
set_option linter.unusedSimpArgs false
end Go.Proofs.Ytddfdppoclnpcaa
