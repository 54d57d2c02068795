/- Contracts of the laws' helpers on slices of slices of int64. -/
import Derived.Test.YtjokodlappeapaaDoorLawC
import Derived.Test.YtjokodlappeapaaDoorArgsG
import Derived.Deep.RegionHeld3
namespace Go.Proofs.YtjokodlappeapaaDoor
open Go.ChangeShapes Go.WideShapes Go.ChangeAt Go.RowKit
set_option linter.unusedVariables false
set_option linter.unusedSimpArgs false
abbrev OwnGG (lo hi : Nat) (w : World) (v : Value) (X : List (List Int)) : Prop := OwnG 34 2 lo hi w v X
def szLeftG (left len : Int) : Int := if left - len < 0 then -1 else left - len
theorem infoG1 : (Tryd.prog.info? 34).map (fun i => (i.zero, i.size, i.bytes)) = some (some (.slice none 0 0), 1, 24) := by kernel_rfl
theorem eq_self (xs : List Int) (v1 v2 : Value) (w : World) (h1 : RdI w v1 xs) (h2 : RdI w v2 xs) :
    Calls Tryd.prog 19 #[v1, v2] w fun e w' => e = .returned (.bool true) ∧ Below w.heap.size w w' := by
  refine (c_laws_eqInt64S xs xs v1 v2 w h1 h2).mono ?_
  rintro e w2 ⟨rfl, hb⟩
  exact ⟨by simp, hb⟩
end Go.Proofs.YtjokodlappeapaaDoor
