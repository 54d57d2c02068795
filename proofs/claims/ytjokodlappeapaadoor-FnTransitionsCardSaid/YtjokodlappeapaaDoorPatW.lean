/- Contracts on patterns: ground states, the code of a pattern, bridges. -/
import Derived.Test.YtjokodlappeapaaDoorPatV
namespace Go.Proofs.YtjokodlappeapaaDoor
open Go.ChangeShapes Go.WideShapes Go.ChangeAt Go.RowKit
set_option linter.unusedVariables false
set_option linter.unusedSimpArgs false
end Go.Proofs.YtjokodlappeapaaDoor
