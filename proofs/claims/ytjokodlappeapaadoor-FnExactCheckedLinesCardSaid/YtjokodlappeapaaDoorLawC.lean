/- Contracts of the laws' own conversions. -/
import Derived.Test.YtjokodlappeapaaDoorLawI
import Derived.Test.YtjokodlappeapaaDoorArgs
import Derived.Test.YtjokodlappeapaaDoorKeep
namespace Go.Proofs.YtjokodlappeapaaDoor
open Go.ChangeShapes Go.WideShapes Go.ChangeAt Go.RowKit
set_option linter.unusedVariables false
end Go.Proofs.YtjokodlappeapaaDoor
