/- Contracts on arcs of graphs of states. -/
import Derived.Test.YtgcmnpimkfmccaaDoorGraph
import Derived.Test.YtgcmnpimkfmccaaDoorArgs
import Derived.Deep.RegionHeld3
namespace Go.Proofs.YtgcmnpimkfmccaaDoor
open Go.ChangeShapes Go.WideShapes Go.ChangeAt Go.RowKit
set_option linter.unusedVariables false
theorem next_or' {m t : Int} (hm : 0 ≤ m ∧ m < 1024) (ht : 0 < t ∧ t ≤ 10) : bits .or .i64 (m / 2) (2 ^ (t.toNat - 1)) = nextM m t := by
  have := next_or hm ht
  rw [show (t - 1).toNat = t.toNat - 1 by omega] at this
  exact this
def rowA (x : Int × Int × Int) : List Value := [.int .i64 x.1, .int .i64 x.2.1, .int .i64 x.2.2]
theorem rowA_len (x : Int × Int × Int) : (rowA x).length = 3 := rfl
theorem rowA_one (x : Int × Int × Int) : ∀ u ∈ rowA x, u.oneCell' = true := by
  intro u hu
  simp only [rowA, List.mem_cons, List.not_mem_nil, or_false] at hu
  rcases hu with rfl | rfl | rfl <;> rfl
def graphC (n h : Int) : Int := bif inB h 1 10 && inB n 0 h then 0 else 2
theorem getD_mem {L : List Int} {k : Nat} (hk : k < L.length) : L.getD k 0 ∈ L := by rw [List.getD_eq_getElem?_getD, List.getElem?_eq_getElem hk]; exact List.getElem_mem hk
theorem mask_bd {n h m : Int} (hh : 1 ≤ h ∧ h ≤ 10) (hm : m ∈ maskL n h) : 0 ≤ m ∧ m < 1024 := by
  have := (mem_maskL.1 hm).1
  have hp := pow_le_1024 h.toNat (by omega)
  omega
theorem maskL_len (n h : Int) (hh : 1 ≤ h ∧ h ≤ 10) : (maskL n h).length ≤ 1024 := by
  have h1 := maskTo_len n (2 ^ h.toNat)
  have h2 : 2 ^ h.toNat ≤ 2 ^ 10 := Nat.pow_le_pow_right (by decide) (by omega)
  unfold maskL
  omega
theorem arcsAt_take {L : List Int} {h : Int} {k j : Nat} (hj : j < (throwsL h (L.getD k 0)).length) :
    arcsTo L h k ++ (arcsAt L h k).take (j + 1) = (arcsTo L h k ++ (arcsAt L h k).take j) ++ [((k : Int), (throwsL h (L.getD k 0)).getD j 0, ((idx L (nextM (L.getD k 0) ((throwsL h (L.getD k 0)).getD j 0)) : Nat) : Int))] := by
  have hl : j < (arcsAt L h k).length := by unfold arcsAt; rw [List.length_map]; exact hj
  rw [take_snoc _ _ hl, List.append_assoc]
  congr 2
  have e : (throwsL h (L.getD k 0)).getD j 0 = (throwsL h (L.getD k 0))[j] := by rw [List.getD_eq_getElem?_getD, List.getElem?_eq_getElem hj]; rfl
  rw [e]
  simp only [arcsAt, List.getElem_map]
theorem arcsAt_full {L : List Int} {h : Int} {k j : Nat} (hj : ¬ j < (throwsL h (L.getD k 0)).length) : arcsTo L h k ++ (arcsAt L h k).take j = arcsTo L h (k + 1) := by
  rw [arcsTo_succ, List.take_of_length_le]
  unfold arcsAt; rw [List.length_map]; omega
end Go.Proofs.YtgcmnpimkfmccaaDoor
