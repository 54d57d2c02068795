/- Contracts of the laws' own conversions. -/
import Derived.Test.YtpcaaohdlcoplaaLawI
import Derived.Test.YtpcaaohdlcoplaaArgs
import Derived.Test.YtpcaaohdlcoplaaKeep
namespace Go.Proofs.Ytpcaaohdlcoplaa
open Go.ChangeShapes Go.WideShapes Go.ChangeAt Go.RowKit
set_option linter.unusedVariables false
end Go.Proofs.Ytpcaaohdlcoplaa
