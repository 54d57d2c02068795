/- The plain law of the best bridge: the fold over all pairs of states finds the first least distance. -/
import Derived.Test.YtpcaaohdlcoplaaBest
namespace Go.Proofs.Ytpcaaohdlcoplaa
open Go.ChangeShapes Go.WideShapes Go.ChangeAt Go.RowKit
set_option linter.unusedVariables false
def Bst (D : Nat → Nat → Int) (m i j : Nat) (c : C3) : Prop := (c.2.2 < 0 ∧ i = 0 ∧ j = 0) ∨ ∃ i0 k0 : Nat, k0 < m ∧ (i0 < i ∨ i0 = i ∧ k0 < j) ∧ c = ((i0 : Int), (k0 : Int), D i0 k0) ∧
  ∀ p q, q < m → (p < i ∨ p = i ∧ q < j) → D i0 k0 ≤ D p q ∧ (D p q = D i0 k0 → ¬ (p < i0 ∨ p = i0 ∧ q < k0))
theorem Bst.step {D : Nat → Nat → Int} {m i j : Nat} {c : C3} (hD : ∀ i j, 0 ≤ D i j) (h : Bst D m i j c) (hj : j < m) : Bst D m i (j + 1) (bStep c i j (D i j)) := by
  right
  rcases h with ⟨h1, rfl, rfl⟩ | ⟨i0, k0, hk0, hp, rfl, hall⟩
  · rw [bStep_yes (Or.inl h1)]
    refine ⟨0, 0, hj, Or.inr ⟨rfl, by omega⟩, rfl, fun p q hq hpq => ?_⟩
    have hp0 : p = 0 := by omega
    have hq0 : q = 0 := by omega
    subst hp0; subst hq0
    exact ⟨Int.le_refl _, fun _ => by omega⟩
  · have hn : ¬ D i0 k0 < 0 := by have := hD i0 k0; omega
    by_cases hlt : D i j < D i0 k0
    · rw [bStep_yes (Or.inr hlt)]
      refine ⟨i, j, hj, Or.inr ⟨rfl, by omega⟩, rfl, fun p q hq hpq => ?_⟩
      by_cases hnew : p = i ∧ q = j
      · obtain ⟨rfl, rfl⟩ := hnew
        exact ⟨Int.le_refl _, fun _ => by omega⟩
      · have h2 := (hall p q hq (by omega)).1
        exact ⟨by omega, fun e => by omega⟩
    · rw [bStep_no hn hlt]
      refine ⟨i0, k0, hk0, by omega, rfl, fun p q hq hpq => ?_⟩
      by_cases hnew : p = i ∧ q = j
      · obtain ⟨rfl, rfl⟩ := hnew
        exact ⟨by omega, fun _ => by omega⟩
      · exact hall p q hq (by omega)
theorem Bst.row {D : Nat → Nat → Int} {m i : Nat} {c : C3} (hD : ∀ i j, 0 ≤ D i j) (h : Bst D m i 0 c) : ∀ j, j ≤ m → Bst D m i j (bRow D i c j)
  | 0, _ => h
  | j + 1, hj => by
    rw [bRow_succ]
    exact (Bst.row hD h j (by omega)).step hD (by omega)
theorem Bst.next {D : Nat → Nat → Int} {m i : Nat} {c : C3} (hm : 1 ≤ m) (h : Bst D m i m c) : Bst D m (i + 1) 0 c := by
  rcases h with ⟨_, _, h3⟩ | ⟨i0, k0, hk0, hp, hc, hall⟩
  · omega
  · exact Or.inr ⟨i0, k0, hk0, by omega, hc, fun p q hq hpq => hall p q hq (by omega)⟩
theorem bTo_bst {D : Nat → Nat → Int} {m : Nat} (hD : ∀ i j, 0 ≤ D i j) (hm : 1 ≤ m) : ∀ n, Bst D m n 0 (bTo D m n)
  | 0 => Or.inl ⟨by show (-1 : Int) < 0; decide, rfl, rfl⟩
  | n + 1 => by
    rw [bTo_succ]
    exact Bst.next hm (Bst.row hD (bTo_bst hD hm n) m (Nat.le_refl _))
theorem bTo_ok {D : Nat → Nat → Int} {m n : Nat} (hD : ∀ i j, 0 ≤ D i j) (hm : 1 ≤ m) (hn : 1 ≤ n) : ∃ i0 k0 : Nat, i0 < n ∧ k0 < m ∧ bTo D m n = ((i0 : Int), (k0 : Int), D i0 k0) ∧
    ∀ p q, p < n → q < m → D i0 k0 ≤ D p q ∧ (D p q = D i0 k0 → ¬ (p < i0 ∨ p = i0 ∧ q < k0)) := by
  rcases bTo_bst hD hm n with ⟨_, h, _⟩ | ⟨i0, k0, hk0, hp, hc, hall⟩
  · omega
  · exact ⟨i0, k0, by omega, hk0, hc, fun p q hp' hq => hall p q hq (Or.inl hp')⟩
theorem far_nonneg (h a b : Int) : 0 ≤ farM h a b := by
  unfold farM
  cases hd : dist (adjM h) a b with
  | none => exact Int.le_refl _
  | some d =>
    obtain ⟨k, hk, _⟩ := dist_some hd
    subst hk
    exact Int.natCast_nonneg k
theorem best_ok {a b : List Int} {h : Int} (hva : validP a = true) (hvb : validP b = true) : ∃ i0 k0 : Nat, i0 < a.length ∧ k0 < b.length ∧ bestT a b h = ((i0 : Int), (k0 : Int), farM h (stM a i0 h) (stM b k0 h)) ∧
    ∀ p q : Nat, p < a.length → q < b.length → farM h (stM a i0 h) (stM b k0 h) ≤ farM h (stM a p h) (stM b q h) ∧ (farM h (stM a p h) (stM b q h) = farM h (stM a i0 h) (stM b k0 h) → ¬ (p < i0 ∨ p = i0 ∧ q < k0)) :=
  bTo_ok (D := bestD a b h) (fun i j => far_nonneg h _ _) (validP_iff.1 hvb).1.2.1 (validP_iff.1 hva).1.2.1
end Go.Proofs.Ytpcaaohdlcoplaa
