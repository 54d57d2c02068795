/- Plain lemmas on the reference's distances by indices. No program. -/
import Derived.Test.YtddfdppoclnpcaaFarS
namespace Go.Proofs.Ytddfdppoclnpcaa
open Go.ChangeShapes Go.WideShapes Go.ChangeAt Go.RowKit
set_option linter.unusedVariables false
theorem arcs_bd {n h : Int} (hh : 1 ≤ h ∧ h ≤ 10) : ∀ a ∈ arcsL (maskL n h) h, (0 ≤ a.1 ∧ a.1 < (maskL n h).length) ∧ (0 ≤ a.2.2 ∧ a.2.2 < (maskL n h).length) := by
  intro a ha
  unfold arcsL arcsTo at ha
  obtain ⟨i, hi, ha⟩ := List.mem_flatMap.1 ha
  have hi := List.mem_range.1 hi
  obtain ⟨t, ht, rfl⟩ := List.mem_map.1 ha
  have hc := ((mem_throwsL (by omega)).1 ht).2
  have hm := next_mem hh (getD_mem hi) hc
  have := idx_lt hm
  exact ⟨⟨Int.natCast_nonneg _, Int.ofNat_lt.2 hi⟩, ⟨Int.natCast_nonneg _, Int.ofNat_lt.2 this⟩⟩
theorem farL_eq {n h m : Int} (hh : 1 ≤ h ∧ h ≤ 10) (hm : m ∈ maskL n h) : farL (maskL n h).length (arcsL (maskL n h) h) (idxI (maskL n h) m) = (maskL n h).map (farM h m) := by
  apply List.ext_getElem
  · simp [farL]
  · intro i h1 h2
    have hi : i < (maskL n h).length := by simpa using h2
    have hmi : (maskL n h)[i] ∈ maskL n h := List.getElem_mem hi
    have hidx : idxI (maskL n h) (maskL n h)[i] = (i : Int) := by
      unfold idxI
      rw [idx_at (nodup_of_sorted (maskL_sorted n h)) i hi]
    have hd := dist_idx hh hm hmi
    rw [hidx] at hd
    simp only [farL, List.getElem_map, List.getElem_range, hd]
    rfl
theorem arcs_len' (n h : Int) (hh : 1 ≤ h ∧ h ≤ 10) : (arcsL (maskL n h) h).length ≤ 1000000 := by
  have h1 := arcsTo_len (maskL n h) h (maskL n h).length (by omega)
  have h2 := maskL_len n h hh
  unfold arcsL
  omega
end Go.Proofs.Ytddfdppoclnpcaa
