/- Contract of impl.distancesFrom. -/
import Derived.Test.YtddfdppoclnpcaaArcs
import Derived.Test.YtddfdppoclnpcaaMemR
import Derived.Test.YtddfdppoclnpcaaPlainG
import Derived.Deep.LoopGhost
namespace Go.Proofs.Ytddfdppoclnpcaa
open Go.ChangeShapes Go.WideShapes Go.ChangeAt Go.RowKit
set_option linter.unusedVariables false
end Go.Proofs.Ytddfdppoclnpcaa
