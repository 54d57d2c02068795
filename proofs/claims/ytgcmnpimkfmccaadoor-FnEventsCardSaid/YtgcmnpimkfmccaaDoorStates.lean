/- Contracts of the functions on states that make lists. -/
import Derived.Test.YtgcmnpimkfmccaaDoorBase
namespace Go.Proofs.YtgcmnpimkfmccaaDoor
open Go.ChangeShapes Go.WideShapes Go.ChangeAt Go.RowKit
set_option linter.unusedVariables false
theorem infoI : (Tryd.prog.info? 2).map (fun i => (i.zero, i.size, i.bytes)) = some (some (.int .i64 0), 1, 8) := by kernel_rfl
abbrev OwnI1 (B : Nat) (w : World) (v : Value) (xs : List Int) : Prop := OwnI 2 B w v xs
end Go.Proofs.YtgcmnpimkfmccaaDoor
