/- FarI, FarT, Short: laid one behind the other. -/
import Derived.Test.YtgcmnpimkfmccaaDoorArcs
import Derived.Test.YtgcmnpimkfmccaaDoorMemR
import Derived.Test.YtgcmnpimkfmccaaDoorPlainG
import Derived.Deep.LoopGhost
import Derived.Test.YtgcmnpimkfmccaaDoorKeep
section
set_option linter.unusedVariables false
namespace Go.Proofs.YtgcmnpimkfmccaaDoor
open Go.ChangeShapes Go.WideShapes Go.ChangeAt Go.RowKit
end Go.Proofs.YtgcmnpimkfmccaaDoor
end
section
set_option linter.unusedVariables false
namespace Go.Proofs.YtgcmnpimkfmccaaDoor
open Go.ChangeShapes Go.WideShapes Go.ChangeAt Go.RowKit
set_option linter.unusedSimpArgs false
theorem zeroS (w : World) : (zeroValue 24).run Tryd.prog w = .ok (.slice none 0 0) w := by kernel_rfl
end Go.Proofs.YtgcmnpimkfmccaaDoor
end
section
set_option linter.unusedVariables false
namespace Go.Proofs.YtgcmnpimkfmccaaDoor
open Go.ChangeShapes Go.WideShapes Go.ChangeAt Go.RowKit
set_option linter.unusedSimpArgs false
end Go.Proofs.YtgcmnpimkfmccaaDoor
end
