/- Contracts on patterns: codes of two patterns and a height, ground states, bridges. -/
import Derived.Test.YtgcmnpimkfmccaaDoorPatU
namespace Go.Proofs.YtgcmnpimkfmccaaDoor
open Go.ChangeShapes Go.WideShapes Go.ChangeAt Go.RowKit
set_option linter.unusedVariables false
set_option linter.unusedSimpArgs false
def fitB (a b : List Int) (h : Int) : Bool := !decide (mxF 0 a > h) && !decide (mxF 0 b > h) && propsP a == propsP b
def brC (a b : List Int) (h : Int) : Int := bif validP a && validP b then (bif inB h 1 10 then (bif fitB a b h then 0 else 6) else 2) else 1
theorem brC_ok {a b : List Int} {h : Int} (hc : brC a b h = 0) : (validP a = true ∧ validP b = true) ∧ (1 ≤ h ∧ h ≤ 10) ∧ ((∀ x ∈ a, x ≤ h) ∧ ∀ x ∈ b, x ≤ h) ∧ propsP a = propsP b := by
  unfold brC at hc
  cases h1 : validP a <;> cases h2 : validP b <;> rw [h1, h2] at hc <;> simp at hc
  cases h3 : inB h 1 10
  · rw [h3] at hc; simp at hc
  · rw [h3] at hc
    cases h4 : fitB a b h
    · rw [h4] at hc; simp at hc
    · unfold fitB at h4
      rw [Bool.and_eq_true, Bool.and_eq_true] at h4
      obtain ⟨⟨k1, k2⟩, k3⟩ := h4
      have k1 : ¬ mxF 0 a > h := by simpa using k1
      have k2 : ¬ mxF 0 b > h := by simpa using k2
      refine ⟨⟨rfl, rfl⟩, inB_iff.1 h3, ⟨fun x hx => ?_, fun x hx => ?_⟩, by simpa using k3⟩
      · have := (mxF_ge 0 a).2.1 x hx; omega
      · have := (mxF_ge 0 b).2.1 x hx; omega
theorem brC_cases (a b : List Int) (h : Int) : (validP a = false ∧ brC a b h = 1) ∨ (validP a = true ∧ validP b = false ∧ brC a b h = 1) ∨ (validP a = true ∧ validP b = true ∧ inB h 1 10 = false ∧ brC a b h = 2) ∨
    (validP a = true ∧ validP b = true ∧ inB h 1 10 = true ∧ mxF 0 a > h ∧ brC a b h = 6) ∨ (validP a = true ∧ validP b = true ∧ inB h 1 10 = true ∧ ¬ mxF 0 a > h ∧ mxF 0 b > h ∧ brC a b h = 6) ∨
    (validP a = true ∧ validP b = true ∧ inB h 1 10 = true ∧ ¬ mxF 0 a > h ∧ ¬ mxF 0 b > h ∧ (propsP a != propsP b) = true ∧ brC a b h = 6) ∨
    (validP a = true ∧ validP b = true ∧ inB h 1 10 = true ∧ ¬ mxF 0 a > h ∧ ¬ mxF 0 b > h ∧ (propsP a != propsP b) = false ∧ brC a b h = 0) := by
  unfold brC fitB
  cases h1 : validP a
  · left; exact ⟨rfl, rfl⟩
  · right
    cases h2 : validP b
    · left; exact ⟨rfl, rfl, rfl⟩
    · right
      cases h3 : inB h 1 10
      · left; exact ⟨rfl, rfl, rfl, rfl⟩
      · right
        by_cases h4 : mxF 0 a > h
        · left; exact ⟨rfl, rfl, rfl, h4, by simp [h4]⟩
        · right
          by_cases h5 : mxF 0 b > h
          · left; exact ⟨rfl, rfl, rfl, h4, h5, by simp [h4, h5]⟩
          · right
            cases h6 : (propsP a == propsP b)
            · left; exact ⟨rfl, rfl, rfl, h4, h5, by rw [bne, h6]; rfl, by simp [h4, h5]⟩
            · right; exact ⟨rfl, rfl, rfl, h4, h5, by rw [bne, h6]; rfl, by simp [h4, h5]⟩
end Go.Proofs.YtgcmnpimkfmccaaDoor
