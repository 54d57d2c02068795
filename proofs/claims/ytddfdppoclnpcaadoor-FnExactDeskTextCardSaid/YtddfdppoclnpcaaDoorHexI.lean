/- impl.hexDigits: the text of a list of throws, laid as bytes. -/
import Derived.Test.YtddfdppoclnpcaaDoorHexS
import Derived.Test.YtddfdppoclnpcaaDoorRowB
namespace Go.Proofs.YtddfdppoclnpcaaDoor
open Go.ChangeShapes Go.WideShapes Go.ChangeAt Go.RowKit
set_option linter.unusedVariables false
theorem digs_ix (n : Int) (h : 0 ≤ n ∧ n < 16) (w : World) : (Instr.index 9 (.string ⟨#[48, 49, 50, 51, 52, 53, 54, 55, 56, 57, 97, 98, 99, 100, 101, 102]⟩) (.int .i64 n)).run Tryd.prog w = .ok (.int .u8 (hexC n)) w := by
  have : n = 0 ∨ n = 1 ∨ n = 2 ∨ n = 3 ∨ n = 4 ∨ n = 5 ∨ n = 6 ∨ n = 7 ∨ n = 8 ∨ n = 9 ∨ n = 10 ∨ n = 11 ∨ n = 12 ∨ n = 13 ∨ n = 14 ∨ n = 15 := by omega
  rcases this with rfl | rfl | rfl | rfl | rfl | rfl | rfl | rfl | rfl | rfl | rfl | rfl | rfl | rfl | rfl | rfl <;> (rw [run_index_string w _ _ _ _ Tryd.underlying9, dif_pos (by decide)]; rfl)
end Go.Proofs.YtddfdppoclnpcaaDoor
