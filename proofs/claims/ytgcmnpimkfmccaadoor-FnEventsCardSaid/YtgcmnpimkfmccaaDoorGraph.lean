/- Contracts on graphs of states: counting, all states, indices. -/
import Derived.Test.YtgcmnpimkfmccaaDoorLawI
import Derived.Test.YtgcmnpimkfmccaaDoorMemR
import Derived.Test.YtgcmnpimkfmccaaDoorPlainG
namespace Go.Proofs.YtgcmnpimkfmccaaDoor
open Go.ChangeShapes Go.WideShapes Go.ChangeAt Go.RowKit
set_option linter.unusedVariables false
/-- the cells of a state -/
def rowS (h m : Int) : List Value := [.int .i64 h, .int .i64 m]
theorem rowS_len (h m : Int) : (rowS h m).length = 2 := rfl
abbrev OwnM1 (lo hi : Nat) (w : World) (b n : Nat) (f : Int → Option Int) : Prop := OwnM Tryd.prog 2 2 lo hi w b n f
theorem zeroI (w : World) : (zeroValue 2).run Tryd.prog w = .ok (.int .i64 0) w := by kernel_rfl
theorem rowS_one (h m : Int) : ∀ u ∈ rowS h m, u.oneCell' = true := by
  intro u hu
  simp only [rowS, List.mem_cons, List.not_mem_nil, or_false] at hu
  rcases hu with rfl | rfl <;> rfl
theorem nat_pow (h : Int) : (((2 ^ h.toNat : Nat) : Int)) = 2 ^ h.toNat := by simp
end Go.Proofs.YtgcmnpimkfmccaaDoor
