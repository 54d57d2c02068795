/- Contracts of the laws' helpers on slices of int64: eq, mark, held. -/
import Derived.Test.YtgcmnpimkfmccaaDoorStates
namespace Go.Proofs.YtgcmnpimkfmccaaDoor
open Go.ChangeShapes Go.WideShapes Go.ChangeAt Go.RowKit
set_option linter.unusedVariables false
theorem eq_take_succ {xs ys : List Int} {k : Nat} (h : k < xs.length) (h2 : k < ys.length) (he : xs.take k = ys.take k) (hx : xs.getD k 0 = ys.getD k 0) : xs.take (k + 1) = ys.take (k + 1) := by
  rw [List.take_add_one, List.take_add_one, he, List.getElem?_eq_getElem h, List.getElem?_eq_getElem h2]
  have hx' : xs[k] = ys[k] := by simpa [List.getElem?_eq_getElem h, List.getElem?_eq_getElem h2, List.getD] using hx
  rw [hx']
theorem ne_of_at {xs ys : List Int} (k : Nat) (hne : xs.getD k 0 ≠ ys.getD k 0) : xs ≠ ys := by
  intro e; subst e; exact hne rfl
end Go.Proofs.YtgcmnpimkfmccaaDoor
