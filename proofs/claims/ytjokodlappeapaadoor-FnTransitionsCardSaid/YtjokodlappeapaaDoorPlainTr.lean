/- Plain facts on tables of transitions: no way over a third pattern is shorter, and the farthest pair is the farthest. -/
import Derived.Test.YtjokodlappeapaaDoorTab5
namespace Go.Proofs.YtjokodlappeapaaDoor
open Go.ChangeShapes Go.WideShapes Go.ChangeAt Go.RowKit
set_option linter.unusedVariables false
theorem far_tri {n h b c : Int} (hh : 1 ≤ h ∧ h ≤ 10) (hb : b ∈ maskL n h) (hc : c ∈ maskL n h) : ∀ (k : Nat) {a : Int}, a ∈ maskL n h → (farM h a b).toNat = k → farM h a c ≤ farM h a b + farM h b c
  | 0, a, ha, hk => by
    have hbd := farM_bd hh ha hb
    have e := farM_zero hh ha hb (by omega)
    subst e
    rw [farM_self]
    omega
  | k + 1, a, ha, hk => by
    have hbd := farM_bd hh ha hb
    have hne : a ≠ b := fun e => by subst e; rw [farM_self] at hk; simp at hk
    obtain ⟨t, ht, hs⟩ := farM_step hh ha hb hne
    have htt := (mem_throwsL (by omega)).1 ht
    have hm := next_mem hh ha htt.2
    have ih := far_tri hh hb hc k hm (by omega)
    have harc := farM_arc hh ha hc (c := nextM a t) (by unfold adjM; exact List.mem_map.2 ⟨t, ht, rfl⟩)
    omega
theorem st_mem {X : List (List Int)} {h : Int} (hc : tabC X h = 0) {i : Nat} (hi : i < X.length) : (fstL X h).getD i 0 ∈ maskL (propsP (X.getD 0 [])) h :=
  tab_mem hc _ (by rw [List.getD_eq_getElem?_getD, List.getElem?_eq_getElem (by rw [fstL_len]; exact hi)]; exact List.getElem_mem _)
theorem tab_tri {X : List (List Int)} {h : Int} (hc : tabC X h = 0) {i j k : Nat} (hi : i < X.length) (hj : j < X.length) (hk : k < X.length) : tabD X h i k ≤ tabD X h i j + tabD X h j k :=
  far_tri (tab_ok hc).1 (st_mem hc hj) (st_mem hc hk) _ (st_mem hc hi) rfl
theorem tab_self (X : List (List Int)) (h : Int) (i : Nat) : tabD X h i i = 0 := farM_self _ _
theorem mRow_ok (D : Nat → Nat → Int) (i : Nat) (c : C3) : ∀ j, c.2.2 ≤ (mRow D i c j).2.2 ∧ (∀ k, k < j → D i k ≤ (mRow D i c j).2.2) ∧ (mRow D i c j = c ∨ ∃ k, k < j ∧ mRow D i c j = ((i : Int), (k : Int), D i k))
  | 0 => ⟨Int.le_refl _, fun k hk => by omega, Or.inl rfl⟩
  | j + 1 => by
    obtain ⟨h1, h2, h3⟩ := mRow_ok D i c j
    rw [mRow_succ]
    by_cases hh : (mRow D i c j).2.2 < D i j
    · rw [mStep_yes hh]
      refine ⟨by show c.2.2 ≤ D i j; omega, fun k hk => ?_, Or.inr ⟨j, by omega, rfl⟩⟩
      show D i k ≤ D i j
      by_cases e : k = j
      · subst e; exact Int.le_refl _
      · have := h2 k (by omega); omega
    · rw [mStep_no hh]
      refine ⟨h1, fun k hk => ?_, ?_⟩
      · by_cases e : k = j
        · subst e; omega
        · exact h2 k (by omega)
      · rcases h3 with h3 | ⟨k, hk, he⟩
        · exact Or.inl h3
        · exact Or.inr ⟨k, by omega, he⟩
theorem mTo_ok (D : Nat → Nat → Int) (m : Nat) : ∀ n, (∀ i, i < n → ∀ k, k < m → D i k ≤ (mTo D m n).2.2) ∧ (mTo D m n = (0, 0, -1) ∨ ∃ i, i < n ∧ ∃ k, k < m ∧ mTo D m n = ((i : Int), (k : Int), D i k))
  | 0 => ⟨fun i hi => by omega, Or.inl rfl⟩
  | n + 1 => by
    obtain ⟨h1, h2⟩ := mTo_ok D m n
    obtain ⟨g1, g2, g3⟩ := mRow_ok D n (mTo D m n) m
    rw [mTo_succ]
    refine ⟨fun i hi k hk => ?_, ?_⟩
    · by_cases e : i = n
      · subst e; exact g2 k hk
      · have := h1 i (by omega) k hk; omega
    · rcases g3 with g3 | ⟨k, hk, he⟩
      · rw [g3]
        rcases h2 with h2 | ⟨i, hi, k, hk, he⟩
        · exact Or.inl h2
        · exact Or.inr ⟨i, by omega, k, hk, he⟩
      · exact Or.inr ⟨n, by omega, k, hk, he⟩
theorem fp_ok {X : List (List Int)} {h : Int} (hs : someC X h = 0) : ∃ a b : Nat, a < X.length ∧ b < X.length ∧ fpA X h = a ∧ fpB X h = b ∧ ∀ i k, i < X.length → k < X.length → tabD X h i k ≤ tabD X h a b := by
  obtain ⟨hc, hl⟩ := some_ok hs
  obtain ⟨h1, h2⟩ := mTo_ok (tabD X h) X.length X.length
  have h0 := h1 0 hl 0 hl
  have hb := tabD_bd hc 0 0 hl hl
  rcases h2 with h2 | ⟨a, ha, b, hbb, he⟩
  · rw [h2] at h0
    have h0 : tabD X h 0 0 ≤ -1 := h0
    omega
  · refine ⟨a, b, ha, hbb, by unfold fpA; rw [if_pos hs, he], by unfold fpB; rw [if_pos hs, he], fun i k hi hk => ?_⟩
    have := h1 i hi k hk
    rw [he] at this
    exact this
end Go.Proofs.YtjokodlappeapaaDoor
