/- Contracts on the index of a state. -/
import Derived.Test.YtpcaaohdlcoplaaArcs
namespace Go.Proofs.Ytpcaaohdlcoplaa
open Go.ChangeShapes Go.WideShapes Go.ChangeAt Go.RowKit
set_option linter.unusedVariables false
theorem valid_iff {h m : Int} (hv : validB h m = true) : (1 ≤ h ∧ h ≤ 10) ∧ (0 ≤ m ∧ m < 2 ^ h.toNat) := by
  have h1 := validB_iff.1 hv
  exact ⟨h1.1, by omega⟩
theorem mem_own {h m : Int} (hv : validB h m = true) : m ∈ maskL (popI m) h := mem_maskL.2 ⟨(valid_iff hv).2, rfl⟩
def stateIdx (h m : Int) : Int := bif validB h m then ((idx (maskL (popI m) h) m : Nat) : Int) else 0
def validC (h m : Int) : Int := bif validB h m then 0 else 1
/-- a and b, both less than c: the arcs into a state -/
def intoTo (X : List (Int × Int × Int)) (q : Int) (k : Nat) : List (Int × Int × Int) := (X.take k).filter fun a => a.2.2 == q
theorem intoTo_yes {X : List (Int × Int × Int)} {q : Int} {k : Nat} (hk : k < X.length) (h : (X[k].2.2 == q) = true) : intoTo X q (k + 1) = intoTo X q k ++ [X[k]] := by
  unfold intoTo
  rw [take_snoc _ _ hk, List.filter_append, List.filter_cons, h]; rfl
theorem intoTo_no {X : List (Int × Int × Int)} {q : Int} {k : Nat} (hk : k < X.length) (h : (X[k].2.2 == q) = false) : intoTo X q (k + 1) = intoTo X q k := by
  unfold intoTo
  rw [take_snoc _ _ hk, List.filter_append, List.filter_cons, h]; simp
theorem intoTo_len (X : List (Int × Int × Int)) (q : Int) (k : Nat) : (intoTo X q k).length ≤ X.length := by
  unfold intoTo
  have := List.length_filter_le (fun a : Int × Int × Int => a.2.2 == q) (X.take k)
  have h2 := List.length_take_le k X
  have h3 := List.length_take_le' k X
  omega
def intoX (h m : Int) : List (Int × Int × Int) := bif validB h m then (arcsL (maskL (popI m) h) h).filter (fun a => a.2.2 == stateIdx h m) else []
end Go.Proofs.Ytpcaaohdlcoplaa
