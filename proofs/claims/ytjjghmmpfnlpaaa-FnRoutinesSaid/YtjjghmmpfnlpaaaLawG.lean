/- Contracts of the laws' helpers on slices of slices of int64. -/
import Derived.Test.YtjjghmmpfnlpaaaLawC
import Derived.Test.YtjjghmmpfnlpaaaArgsG
import Derived.Deep.RegionHeld3
namespace Go.Proofs.Ytjjghmmpfnlpaaa
open Go.ChangeShapes Go.WideShapes Go.ChangeAt Go.RowKit
set_option linter.unusedVariables false
set_option linter.unusedSimpArgs false
abbrev OwnGG (lo hi : Nat) (w : World) (v : Value) (X : List (List Int)) : Prop := OwnG 28 2 lo hi w v X
def szLeftG (left len : Int) : Int := if left - len < 0 then -1 else left - len
theorem infoG1 : (Try.prog.info? 28).map (fun i => (i.zero, i.size, i.bytes)) = some (some (.slice none 0 0), 1, 24) := by kernel_rfl
end Go.Proofs.Ytjjghmmpfnlpaaa
