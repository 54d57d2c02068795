/- Contracts of BestBridge, the program's. -/
import Derived.Test.YtjokodlappeapaaDoorPatW
namespace Go.Proofs.YtjokodlappeapaaDoor
open Go.ChangeShapes Go.WideShapes Go.ChangeAt Go.RowKit
set_option linter.unusedVariables false
set_option linter.unusedSimpArgs false
/-- the states before the first k beats -/
def stsTo (p : List Int) (h : Int) (k : Nat) : List Int := (List.range k).map fun i : Nat => stM p i h
def stsL (p : List Int) (h : Int) : List Int := stsTo p h p.length
theorem stsTo_len (p : List Int) (h : Int) (k : Nat) : (stsTo p h k).length = k := by simp [stsTo]
theorem stsTo_succ (p : List Int) (h : Int) (k : Nat) : stsTo p h (k + 1) = stsTo p h k ++ [stM p k h] := by simp [stsTo, List.range_succ]
theorem stsL_len (p : List Int) (h : Int) : (stsL p h).length = p.length := stsTo_len _ _ _
theorem stsL_at {p : List Int} {h : Int} {k : Nat} (hk : k < p.length) : (stsL p h).getD k 0 = stM p k h := by simp [stsL, stsTo, List.getD, hk]
abbrev C3 : Type := Int × Int × Int
def bStep (c : C3) (i k d : Int) : C3 := bif decide (c.2.2 < 0) || decide (d < c.2.2) then (i, k, d) else c
def bRow (D : Nat → Nat → Int) (i : Nat) (c : C3) : Nat → C3
  | 0 => c
  | j + 1 => bStep (bRow D i c j) i j (D i j)
def bTo (D : Nat → Nat → Int) (m : Nat) : Nat → C3
  | 0 => (0, 0, -1)
  | i + 1 => bRow D i (bTo D m i) m
theorem bRow_succ (D : Nat → Nat → Int) (i j : Nat) (c : C3) : bRow D i c (j + 1) = bStep (bRow D i c j) i j (D i j) := rfl
theorem bTo_succ (D : Nat → Nat → Int) (m i : Nat) : bTo D m (i + 1) = bRow D i (bTo D m i) m := rfl
theorem bStep_yes {c : C3} {i k d : Int} (h : c.2.2 < 0 ∨ d < c.2.2) : bStep c i k d = (i, k, d) := by
  unfold bStep
  rcases h with h | h <;> simp [h]
theorem bStep_no {c : C3} {i k d : Int} (h1 : ¬ c.2.2 < 0) (h2 : ¬ d < c.2.2) : bStep c i k d = c := by
  unfold bStep
  simp [h1, h2]
noncomputable def bestD (a b : List Int) (h : Int) (i j : Nat) : Int := farM h (stM a i h) (stM b j h)
noncomputable def bestT (a b : List Int) (h : Int) : C3 := bTo (bestD a b h) b.length a.length
end Go.Proofs.YtjokodlappeapaaDoor
