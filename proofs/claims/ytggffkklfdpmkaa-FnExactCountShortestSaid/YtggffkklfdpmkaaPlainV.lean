/- Plain lemmas: the slice of ways, arc by arc. No program. -/
import Derived.Test.YtggffkklfdpmkaaPlainL
namespace Go.Proofs.Ytggffkklfdpmkaa
open Go.RowKit (wrap64)
noncomputable def wayL (h a : Int) (L : List Int) (d : Nat) (A : List (Int × Int × Int)) : List Int := L.map (waysV h a L d A)
section
variable {n h a : Int}
theorem wayL_len (h a : Int) (L : List Int) (d : Nat) (A : List (Int × Int × Int)) : (wayL h a L d A).length = L.length := by simp [wayL]
theorem wayL_at {L : List Int} {d : Nat} {A : List (Int × Int × Int)} {i : Nat} (hi : i < L.length) : (wayL h a L d A).getD i 0 = waysV h a L d A L[i] := by simp [wayL, List.getD, hi]
theorem waysV_snoc (h a : Int) (L : List Int) (d : Nat) (A : List (Int × Int × Int)) (x : Int × Int × Int) (y : Int) :
    waysV h a L d (A ++ [x]) y = if farM h a y ≤ d then waysV h a L d A y else wrap64 (partS h a L d A y + if x.2.2 = idxI L y ∧ farM h a (L.getD x.1.toNat 0) = d ∧ farM h a y = d + 1 then waysN (adjM h) d a (L.getD x.1.toNat 0) else 0) := by
  unfold waysV
  by_cases h1 : farM h a y ≤ d
  · rw [if_pos h1, if_pos h1, if_pos h1]
  · rw [if_neg h1, if_neg h1, partS_snoc]
theorem wayL_no {L : List Int} (hn : L.Nodup) {d : Nat} {A : List (Int × Int × Int)} {i j : Nat} {t : Int} (hi : i < L.length) (hj : j < L.length) (hno : ¬ (farM h a L[i] = d ∧ farM h a L[j] = d + 1)) :
    wayL h a L d (A ++ [((i : Int), t, (j : Int))]) = wayL h a L d A := by
  unfold wayL
  refine List.map_congr_left fun y hy => ?_
  rw [waysV_snoc]
  have e : L.getD ((i : Int), t, (j : Int)).1.toNat 0 = L[i] := by simp [List.getD, hi]
  rw [e]
  by_cases h1 : farM h a y ≤ d
  · rw [if_pos h1]
  · rw [if_neg h1, if_neg, Int.add_zero]
    · unfold waysV
      rw [if_neg h1]
    · rintro ⟨h2, h3, h4⟩
      have h5 : idxI L y = idxI L L[j] := by
        rw [← h2]
        unfold idxI
        rw [idx_at hn j hj]
      have h6 := idxI_inj hy (List.getElem_mem hj) h5
      exact hno ⟨h3, by rw [← h6]; exact h4⟩
theorem wayL_yes {L : List Int} (hn : L.Nodup) {d : Nat} {A : List (Int × Int × Int)} {i j : Nat} {t : Int} (hi : i < L.length) (hj : j < L.length) (h1 : farM h a L[i] = d) (h2 : farM h a L[j] = d + 1) :
    (wayL h a L d A).set j (wrap64 ((wayL h a L d A).getD j 0 + (wayL h a L d A).getD i 0)) = wayL h a L d (A ++ [((i : Int), t, (j : Int))]) := by
  apply List.ext_getElem
  · simp [wayL_len]
  · intro k hk1 hk2
    have hk : k < L.length := by rw [wayL_len] at hk2; exact hk2
    have e : L.getD ((i : Int), t, (j : Int)).1.toNat 0 = L[i] := by simp [List.getD, hi]
    have ek : (wayL h a L d (A ++ [((i : Int), t, (j : Int))]))[k] = waysV h a L d (A ++ [((i : Int), t, (j : Int))]) L[k] := by simp [wayL]
    have ek' : (wayL h a L d A)[k]'(by rw [wayL_len]; exact hk) = waysV h a L d A L[k] := by simp [wayL]
    rw [List.getElem_set, ek, waysV_snoc, e]
    by_cases hjk : j = k
    · subst hjk
      rw [if_pos rfl, wayL_at hj, wayL_at hi, if_neg (by omega), if_pos ⟨by
        show (j : Int) = _
        unfold idxI
        rw [idx_at hn j hj], h1, h2⟩]
      unfold waysV
      rw [if_neg (by omega), if_pos (by omega), h1, Int.toNat_natCast, wrap_add]
    · rw [if_neg hjk, ek']
      by_cases h3 : farM h a L[k] ≤ d
      · rw [if_pos h3]
      · rw [if_neg h3, if_neg, Int.add_zero]
        · unfold waysV
          rw [if_neg h3]
        · rintro ⟨h4, _, _⟩
          have h5 : (j : Int) = idxI L L[k] := h4
          unfold idxI at h5
          rw [idx_at hn k hk] at h5
          omega
theorem wayL_layer (hh : 1 ≤ h ∧ h ≤ 10) (ha : a ∈ maskL n h) (d : Nat) : wayL h a (maskL n h) d (arcsL (maskL n h) h) = wayL h a (maskL n h) (d + 1) [] :=
  List.map_congr_left fun _ hy => waysV_layer hh ha d hy
theorem wayL_start (hh : 1 ≤ h ∧ h ≤ 10) (ha : a ∈ maskL n h) : (List.replicate (maskL n h).length (0 : Int)).set (idx (maskL n h) a) 1 = wayL h a (maskL n h) 0 [] := by
  apply List.ext_getElem
  · simp [wayL_len]
  · intro k hk1 hk2
    have hk : k < (maskL n h).length := by rw [wayL_len] at hk2; exact hk2
    have ek : (wayL h a (maskL n h) 0 [])[k] = waysV h a (maskL n h) 0 [] (maskL n h)[k] := by simp [wayL]
    rw [ek, waysV_start hh ha (List.getElem_mem hk), List.getElem_set]
    by_cases hka : idx (maskL n h) a = k
    · subst hka
      rw [if_pos rfl, if_pos (idx_get ha)]
    · rw [if_neg hka, if_neg]
      · simp
      · intro e
        exact hka (by rw [← e, idx_at (nodup_of_sorted (maskL_sorted n h)) k hk])
theorem wayL_end {b : Int} (hb : b ∈ maskL n h) {d : Nat} (hd : farM h a b = d) : (wayL h a (maskL n h) d []).getD (idx (maskL n h) b) 0 = wrap64 (waysN (adjM h) d a b) := by
  rw [wayL_at (idx_lt hb), idx_get hb]
  unfold waysV
  rw [if_pos (by omega), hd, Int.toNat_natCast]
end
end Go.Proofs.Ytggffkklfdpmkaa
