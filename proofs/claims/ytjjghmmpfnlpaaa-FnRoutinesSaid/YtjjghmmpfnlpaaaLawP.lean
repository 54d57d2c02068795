/- Contracts of the laws' helpers on routines: size, conversion, equality. -/
import Derived.Test.YtjjghmmpfnlpaaaLawC
import Derived.Test.YtjjghmmpfnlpaaaLawG
import Derived.Test.YtjjghmmpfnlpaaaMemP
namespace Go.Proofs.Ytjjghmmpfnlpaaa
open Go.ChangeShapes Go.WideShapes Go.ChangeAt Go.RowKit
set_option linter.unusedVariables false
set_option linter.unusedSimpArgs false
theorem infoP : (Try.prog.info? 34).map (fun i => (i.zero, i.size, i.bytes)) = some (some (.agg #[.slice none 0 0, .int .i64 0]), 2, 32) := by kernel_rfl
end Go.Proofs.Ytjjghmmpfnlpaaa
