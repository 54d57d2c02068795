/- FarS, FarP, ShortS: laid one behind the other. -/
import Derived.Test.YtgcmnpimkfmccaaDoorShort
import Derived.Test.YtgcmnpimkfmccaaDoorMemR
section
set_option linter.unusedVariables false
namespace Go.Proofs.YtgcmnpimkfmccaaDoor
open Go.ChangeShapes Go.WideShapes Go.ChangeAt Go.RowKit
set_option linter.unusedSimpArgs false
noncomputable def farL (n : Nat) (X : List (Int × Int × Int)) (s : Int) : List Int := (List.range n).map fun i : Nat => (dist (adjX X) s i).getD (-1)
def nextTo (n : Nat) (X : List (Int × Int × Int)) (i : Nat) : List (List Int) := (List.range n).map fun j : Nat => adjX (X.take i) (j : Int)
theorem nextTo_len (n : Nat) (X : List (Int × Int × Int)) (i : Nat) : (nextTo n X i).length = n := by simp [nextTo]
theorem nextTo_get {n : Nat} {X : List (Int × Int × Int)} {i j : Nat} (hj : j < n) : (nextTo n X i).getD j [] = adjX (X.take i) (j : Int) := by simp [nextTo, List.getD, hj]
theorem adjX_len (X : List (Int × Int × Int)) (k a0 : Nat) : (adjX (X.take k) (a0 : Int)).length ≤ X.length := by
  unfold adjX
  rw [List.length_map]
  exact Nat.le_trans (List.length_filter_le _ _) (List.length_take_le' _ _)
theorem nextTo_zero (n : Nat) (X : List (Int × Int × Int)) : nextTo n X 0 = List.replicate n [] := by
  rw [List.eq_replicate_iff]
  refine ⟨nextTo_len n X 0, fun b hb => ?_⟩
  obtain ⟨j, _, rfl⟩ := List.mem_map.1 hb
  rfl
theorem nextTo_all (n : Nat) (X : List (Int × Int × Int)) : nextTo n X X.length = (List.range n).map fun j : Nat => adjX X (j : Int) := by simp [nextTo]
theorem nextTo_succ {n : Nat} {X : List (Int × Int × Int)} {i a : Nat} {b c : Int} (hi : i < X.length) (hx : X[i] = ((a : Int), b, c)) (ha : a < n) :
    nextTo n X (i + 1) = (nextTo n X i).set a ((nextTo n X i).getD a [] ++ [c]) := by
  apply List.ext_getElem
  · simp [nextTo_len]
  · intro j h1 h2
    rw [nextTo_len] at h1
    rw [List.getElem_set]
    have hl : (nextTo n X (i + 1))[j]'(by rw [nextTo_len]; exact h1) = adjX (X.take (i + 1)) (j : Int) := by simp [nextTo]
    have hr : (nextTo n X i)[j]'(by rw [nextTo_len]; exact h1) = adjX (X.take i) (j : Int) := by simp [nextTo]
    rw [hl, hr, nextTo_get ha]
    have hs : adjX (X.take (i + 1)) (j : Int) = adjX (X.take i) (j : Int) ++ adjX [X[i]] (j : Int) := by
      unfold adjX
      rw [take_snoc _ _ hi, List.filter_append, List.map_append]
    rw [hs, hx]
    by_cases hja : a = j
    · subst hja
      rw [if_pos rfl]
      simp [adjX]
    · rw [if_neg hja]
      have : ((a : Int) == (j : Int)) = false := by simp; omega
      simp [adjX, this]
/-- the distances as they stand in the slice: -1 where none is known -/
def outOf (n : Nat) (f : Int → Option Int) : List Int := (List.range n).map fun i : Nat => (f i).getD (-1)
theorem outOf_len (n : Nat) (f : Int → Option Int) : (outOf n f).length = n := by simp [outOf]
theorem outOf_get {n : Nat} {f : Int → Option Int} {i : Nat} (hi : i < n) : (outOf n f).getD i 0 = (f i).getD (-1) := by simp [outOf, List.getD, hi]
theorem outOf_put {n : Nat} {f : Int → Option Int} {i : Nat} (c : Int) (hi : i < n) : (outOf n f).set i c = outOf n (fput' f i c) := by
  apply List.ext_getElem
  · simp [outOf_len]
  · intro j h1 h2
    rw [outOf_len] at h2
    rw [List.getElem_set]
    have e1 : (outOf n f)[j]'(by rw [outOf_len]; exact h2) = (f j).getD (-1) := by simp [outOf]
    have e2 : (outOf n (fput' f i c))[j]'(by rw [outOf_len]; exact h2) = (fput' f i c j).getD (-1) := by simp [outOf]
    rw [e1, e2]
    unfold fput'
    by_cases hji : i = j
    · subst hji; simp
    · rw [if_neg hji, if_neg (by omega)]
theorem outOf_none (n : Nat) : List.replicate n (-1) = outOf n (fun _ => none) := by
  symm
  rw [List.eq_replicate_iff]
  refine ⟨outOf_len n _, fun b hb => ?_⟩
  obtain ⟨j, _, rfl⟩ := List.mem_map.1 hb
  rfl
/-- the numbers less than n, as nodes -/
def nodesL (n : Nat) : List Int := (List.range n).map fun i : Nat => (i : Int)
theorem mem_nodesL {n : Nat} {y : Int} : y ∈ nodesL n ↔ 0 ≤ y ∧ y < n := by
  unfold nodesL
  rw [List.mem_map]
  constructor
  · rintro ⟨a, ha, rfl⟩
    have := List.mem_range.1 ha
    omega
  · rintro ⟨h0, h1⟩
    obtain ⟨a, rfl⟩ := Int.eq_ofNat_of_zero_le h0
    exact ⟨a, List.mem_range.2 (by omega), rfl⟩
theorem infoG : (Tryd.prog.info? 24).map (fun i => (i.zero, i.size, i.bytes)) = some (some (.slice none 0 0), 1, 24) := by kernel_rfl
theorem arcs_bd {n h : Int} (hh : 1 ≤ h ∧ h ≤ 10) : ∀ a ∈ arcsL (maskL n h) h, (0 ≤ a.1 ∧ a.1 < (maskL n h).length) ∧ (0 ≤ a.2.2 ∧ a.2.2 < (maskL n h).length) := by
  intro a ha
  unfold arcsL arcsTo at ha
  obtain ⟨i, hi, ha⟩ := List.mem_flatMap.1 ha
  have hi := List.mem_range.1 hi
  obtain ⟨t, ht, rfl⟩ := List.mem_map.1 ha
  have hc := ((mem_throwsL (by omega)).1 ht).2
  have hm := next_mem hh (getD_mem hi) hc
  have := idx_lt hm
  exact ⟨⟨Int.natCast_nonneg _, Int.ofNat_lt.2 hi⟩, ⟨Int.natCast_nonneg _, Int.ofNat_lt.2 this⟩⟩
theorem farL_eq {n h m : Int} (hh : 1 ≤ h ∧ h ≤ 10) (hm : m ∈ maskL n h) : farL (maskL n h).length (arcsL (maskL n h) h) (idxI (maskL n h) m) = (maskL n h).map (farM h m) := by
  apply List.ext_getElem
  · simp [farL]
  · intro i h1 h2
    have hi : i < (maskL n h).length := by simpa using h2
    have hmi : (maskL n h)[i] ∈ maskL n h := List.getElem_mem hi
    have hidx : idxI (maskL n h) (maskL n h)[i] = (i : Int) := by
      unfold idxI
      rw [idx_at (nodup_of_sorted (maskL_sorted n h)) i hi]
    have hd := dist_idx hh hm hmi
    rw [hidx] at hd
    simp only [farL, List.getElem_map, List.getElem_range, hd]
    rfl
theorem arcs_len' (n h : Int) (hh : 1 ≤ h ∧ h ≤ 10) : (arcsL (maskL n h) h).length ≤ 1000000 := by
  have h1 := arcsTo_len (maskL n h) h (maskL n h).length (by omega)
  have h2 := maskL_len n h hh
  unfold arcsL
  omega
end Go.Proofs.YtgcmnpimkfmccaaDoor
end
section
set_option linter.unusedVariables false
namespace Go.Proofs.YtgcmnpimkfmccaaDoor
open Go.ChangeShapes Go.WideShapes Go.ChangeAt Go.RowKit
set_option linter.unusedSimpArgs false
theorem RdI.same {lo hi : Nat} {a b : World} {v : Value} {xs : List Int} (h : RdI a v xs) (hs : Same lo hi a b) (hl : ∀ k, v.ownBlock = some k → lo ≤ k ∧ k < hi) : RdI b v xs := by
  obtain ⟨ad, cap, hv, hn, hc⟩ := h
  refine ⟨ad, cap, hv, hn, fun k hk => ?_⟩
  obtain ⟨bl, off, ha, hcell⟩ := hc k hk
  have hb := hl bl (by rw [hv, ha]; rfl)
  exact ⟨bl, off, ha, by rw [hs.cell hb.1 hb.2]; exact hcell⟩
theorem farL_back {n h b : Int} (hh : 1 ≤ h ∧ h ≤ 10) (hb : b ∈ maskL n h) : farL (maskL n h).length (backL (maskL n h) h) (idxI (maskL n h) b) = (maskL n h).map (fun y => farM h y b) := by
  apply List.ext_getElem
  · simp [farL]
  · intro i h1 h2
    have hi : i < (maskL n h).length := by simpa using h2
    have hmi : (maskL n h)[i] ∈ maskL n h := List.getElem_mem hi
    have hidx : idxI (maskL n h) (maskL n h)[i] = (i : Int) := by
      unfold idxI
      rw [idx_at (nodup_of_sorted (maskL_sorted n h)) i hi]
    have hd := dist_back hh hb hmi
    rw [hidx] at hd
    simp only [farL, List.getElem_map, List.getElem_range, hd]
    rfl
def backTo (X : List (Int × Int × Int)) (k : Nat) : List (Int × Int × Int) := (X.take k).map fun a => (a.2.2, (0 : Int), a.1)
theorem backTo_succ {X : List (Int × Int × Int)} {k : Nat} (hk : k < X.length) : backTo X (k + 1) = backTo X k ++ [(X[k].2.2, 0, X[k].1)] := by
  unfold backTo
  rw [take_snoc _ _ hk, List.map_append]; rfl
theorem backTo_len (X : List (Int × Int × Int)) (k : Nat) : (backTo X k).length ≤ X.length := by
  unfold backTo
  rw [List.length_map]
  exact List.length_take_le' _ _
theorem backTo_all (L : List Int) (h : Int) : backTo (arcsL L h) (arcsL L h).length = backL L h := by
  unfold backTo backL
  rw [List.take_length]
theorem mapFar_at {L : List Int} {h b x : Int} (hx : x ∈ L) : (L.map (fun y => farM h y b)).getD (idx L x) 0 = farM h x b := by
  have hl := idx_lt hx
  have hg := idx_get hx
  simp [List.getD, hl, hg]
end Go.Proofs.YtgcmnpimkfmccaaDoor
end
