/- Lemmas on a row changed in its place within a slice of slices of int64. No program. -/
import Derived.Test.YtddfdppoclnpcaaDoorMemR
import Derived.Test.YtddfdppoclnpcaaDoorLawI
namespace Go.RowKit
theorem OwnG.row {ES e : TypeId} {lo hi : Nat} {w : World} {X : List (List Int)} {g n cap : Nat} (h : OwnG ES e lo hi w (.slice (some ⟨g, 0, none⟩) n cap) X) (i : Nat) (hi' : i < X.length) :
    ∃ u, w.cell? ⟨g, i, none⟩ = some u ∧ OwnIR e lo hi w u (X.getD i []) ∧
      ∀ w1 ys, OwnI e lo w1 u ys → w.grownBy w1 u.ownBlock → OwnG ES e lo hi w1 (.slice (some ⟨g, 0, none⟩) n cap) (X.set i ys) := by
  obtain ⟨vs, k1, k2, k3, k4, k5, k6⟩ := h
  obtain rfl : n = X.length := by
    rcases k2.2 with ⟨h0, _⟩ | ⟨g', cap', cur, he, _⟩
    · cases h0
    · cases he; rfl
  have hcell := World.ownsRow.cellAt k2 i (show i < X.length * 1 by omega)
  have hvi : i < vs.length := by omega
  have hge : vs.getD i undef = vs[i] := by simp [List.getD, hvi]
  refine ⟨vs.getD i undef, by rw [hcell, List.getElem?_eq_getElem hvi, hge], k4 i hi', fun w1 ys ho hg => ?_⟩
  have hX : ∀ j, (X.set i ys).getD j [] = if j = i then ys else X.getD j [] := fun j => by
    by_cases hji : j = i
    · subst hji; rw [if_pos rfl]; simp [List.getD, hi']
    · rw [if_neg hji]; simp [List.getD, Ne.symm hji]
  refine ⟨vs, by simp [k1], ?_, k3, fun j hj => ?_, fun j l hj hl => ?_, fun j b hj hb => ?_⟩
  · rw [List.length_set]
    exact owns_block k2 fun k hk => hg.block _ (k2.lt _ hk).2 (fun hb => k6 i _ hi' hb.symm hk)
  · rw [List.length_set] at hj
    rw [hX j]
    by_cases hji : j = i
    · subst hji
      rw [if_pos rfl]
      exact ⟨ho, (k4 j hj).2⟩
    · rw [if_neg hji]
      have hr := k4 j hj
      refine ⟨owns_block hr.1 fun k hk => ?_, hr.2⟩
      exact hg.block k (World.ownsRow.lt hr.1 k hk).2 (fun hb => k5 j i hj hi' hji k hk hb.symm)
  · rw [List.length_set] at hj hl
    exact k5 j l hj hl
  · rw [List.length_set] at hj
    exact k6 j b hj hb
def markG (q : Int) (X : List (List Int)) (i : Nat) : List Int := marks (q + sumLen (X.take i)) (X.getD i []).length
def mixG (q : Int) (X : List (List Int)) (k : Nat) : List (List Int) := (List.range X.length).map fun i => if i < k then markG q X i else X.getD i []
def marksG (q : Int) (X : List (List Int)) : List (List Int) := mixG q X X.length
theorem mixG_len (q : Int) (X : List (List Int)) (k : Nat) : (mixG q X k).length = X.length := by simp [mixG]
theorem mixG_at (q : Int) (X : List (List Int)) (k i : Nat) (hi : i < (mixG q X k).length) : (mixG q X k)[i] = if i < k then markG q X i else X.getD i [] := by simp [mixG]
theorem mixG_get (q : Int) (X : List (List Int)) (k i : Nat) (hi : i < X.length) : (mixG q X k).getD i [] = if i < k then markG q X i else X.getD i [] := by
  have h1 : i < (mixG q X k).length := by rw [mixG_len]; exact hi
  have e : (mixG q X k).getD i [] = (mixG q X k)[i] := by simp [List.getD, h1]
  rw [e, mixG_at]
theorem mixG_zero (q : Int) (X : List (List Int)) : mixG q X 0 = X := by
  apply List.ext_getElem
  · simp [mixG_len]
  · intro i h1 h2
    rw [mixG_at, if_neg (by omega)]
    simp [List.getD, h2]
theorem mixG_succ (q : Int) (X : List (List Int)) (k : Nat) : (mixG q X k).set k (markG q X k) = mixG q X (k + 1) := by
  apply List.ext_getElem
  · simp [mixG_len]
  · intro i h1 h2
    rw [mixG_at, List.getElem_set]
    by_cases hik : k = i
    · subst hik
      rw [if_pos rfl, if_pos (by omega)]
    · rw [if_neg hik, mixG_at]
      by_cases hlt : i < k
      · rw [if_pos hlt, if_pos (by omega)]
      · rw [if_neg hlt, if_neg (by omega)]
end Go.RowKit
