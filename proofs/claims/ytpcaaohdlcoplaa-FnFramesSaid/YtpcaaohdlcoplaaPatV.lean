/- Contracts on patterns: codes of two patterns and a height, ground states, bridges. -/
import Derived.Test.YtpcaaohdlcoplaaPatU
namespace Go.Proofs.Ytpcaaohdlcoplaa
open Go.ChangeShapes Go.WideShapes Go.ChangeAt Go.RowKit
set_option linter.unusedVariables false
set_option linter.unusedSimpArgs false
def fitB (a b : List Int) (h : Int) : Bool := !decide (mxF 0 a > h) && !decide (mxF 0 b > h) && propsP a == propsP b
def brC (a b : List Int) (h : Int) : Int := bif validP a && validP b then (bif inB h 1 10 then (bif fitB a b h then 0 else 6) else 2) else 1
theorem brC_ok {a b : List Int} {h : Int} (hc : brC a b h = 0) : (validP a = true ∧ validP b = true) ∧ (1 ≤ h ∧ h ≤ 10) ∧ ((∀ x ∈ a, x ≤ h) ∧ ∀ x ∈ b, x ≤ h) ∧ propsP a = propsP b := by
  unfold brC at hc
  cases h1 : validP a <;> cases h2 : validP b <;> rw [h1, h2] at hc <;> simp at hc
  cases h3 : inB h 1 10
  · rw [h3] at hc; simp at hc
  · rw [h3] at hc
    cases h4 : fitB a b h
    · rw [h4] at hc; simp at hc
    · unfold fitB at h4
      rw [Bool.and_eq_true, Bool.and_eq_true] at h4
      obtain ⟨⟨k1, k2⟩, k3⟩ := h4
      have k1 : ¬ mxF 0 a > h := by simpa using k1
      have k2 : ¬ mxF 0 b > h := by simpa using k2
      refine ⟨⟨rfl, rfl⟩, inB_iff.1 h3, ⟨fun x hx => ?_, fun x hx => ?_⟩, by simpa using k3⟩
      · have := (mxF_ge 0 a).2.1 x hx; omega
      · have := (mxF_ge 0 b).2.1 x hx; omega
theorem brC_cases (a b : List Int) (h : Int) : (validP a = false ∧ brC a b h = 1) ∨ (validP a = true ∧ validP b = false ∧ brC a b h = 1) ∨ (validP a = true ∧ validP b = true ∧ inB h 1 10 = false ∧ brC a b h = 2) ∨
    (validP a = true ∧ validP b = true ∧ inB h 1 10 = true ∧ mxF 0 a > h ∧ brC a b h = 6) ∨ (validP a = true ∧ validP b = true ∧ inB h 1 10 = true ∧ ¬ mxF 0 a > h ∧ mxF 0 b > h ∧ brC a b h = 6) ∨
    (validP a = true ∧ validP b = true ∧ inB h 1 10 = true ∧ ¬ mxF 0 a > h ∧ ¬ mxF 0 b > h ∧ (propsP a != propsP b) = true ∧ brC a b h = 6) ∨
    (validP a = true ∧ validP b = true ∧ inB h 1 10 = true ∧ ¬ mxF 0 a > h ∧ ¬ mxF 0 b > h ∧ (propsP a != propsP b) = false ∧ brC a b h = 0) := by
  unfold brC fitB
  cases h1 : validP a
  · left; exact ⟨rfl, rfl⟩
  · right
    cases h2 : validP b
    · left; exact ⟨rfl, rfl, rfl⟩
    · right
      cases h3 : inB h 1 10
      · left; exact ⟨rfl, rfl, rfl, rfl⟩
      · right
        by_cases h4 : mxF 0 a > h
        · left; exact ⟨rfl, rfl, rfl, h4, by simp [h4]⟩
        · right
          by_cases h5 : mxF 0 b > h
          · left; exact ⟨rfl, rfl, rfl, h4, h5, by simp [h4, h5]⟩
          · right
            cases h6 : (propsP a == propsP b)
            · left; exact ⟨rfl, rfl, rfl, h4, h5, by rw [bne, h6]; rfl, by simp [h4, h5]⟩
            · right; exact ⟨rfl, rfl, rfl, h4, h5, by rw [bne, h6]; rfl, by simp [h4, h5]⟩
set_option maxHeartbeats 1000000 in
set_option maxRecDepth 100000 in
theorem c_impl_bridgeCode (a b : List Int) (h : Int) (v1 v2 : Value) (w : World) (hr1 : RdI w v1 a) (hr2 : RdI w v2 b) :
    Calls Try.prog 51 #[v1, v2, .int .i64 h] w fun e w' => e = .returned (.int .i64 (brC a b h)) ∧ Below w.heap.size w w' := by
  have HR1 := Lib.hid hr1
  have HR2 := Lib.hid hr2
  clear hr1 hr2
  rcases brC_cases a b h with ⟨h1, hc⟩ | ⟨h1, h2, hc⟩ | ⟨h1, h2, h3, hc⟩ | ⟨h1, h2, h3, h4, hc⟩ | ⟨h1, h2, h3, h4, h5, hc⟩ | ⟨h1, h2, h3, h4, h5, h6, hc⟩ | ⟨h1, h2, h3, h4, h5, h6, hc⟩
  · have HC := Lib.hid hc
    clear hc
    go_enter Try.func51, Try.ntmps51
    go_wp2_with fail
    refine (c_impl_ValidPattern a _ _ HR1.out).mono ?_; rintro e w1 ⟨rfl, hb1⟩
    rw [h1]
    clear h1
    go_wp2
    go_ret
    exact ⟨by rw [HC.out]; rfl, hb1⟩
  · have HC := Lib.hid hc
    clear hc
    have HV1 := Lib.hid h1
    go_enter Try.func51, Try.ntmps51
    go_wp2_with fail
    refine (c_impl_ValidPattern a _ _ HR1.out).mono ?_; rintro e w1 ⟨rfl, hb1⟩
    rw [h1]
    clear h1
    go_wp2_with fail
    refine (c_impl_ValidPattern b _ _ (HR2.out.below hb1)).mono ?_; rintro e w2 ⟨rfl, hb2⟩
    rw [h2]
    clear h2
    go_wp2
    go_ret
    exact ⟨by rw [HC.out]; rfl, hb1.tr hb2⟩
  · have HC := Lib.hid hc
    clear hc
    have HV1 := Lib.hid h1
    have HV2 := Lib.hid h2
    go_enter Try.func51, Try.ntmps51
    go_wp2_with fail
    refine (c_impl_ValidPattern a _ _ HR1.out).mono ?_; rintro e w1 ⟨rfl, hb1⟩
    rw [h1]
    clear h1
    go_wp2_with fail
    refine (c_impl_ValidPattern b _ _ (HR2.out.below hb1)).mono ?_; rintro e w2 ⟨rfl, hb2⟩
    rw [h2]
    clear h2
    have B2 := hb1.tr hb2
    go_wp2_with fail
    refine (c_impl_isHeight h _).mono ?_; rintro e w3 ⟨rfl, rfl⟩; rw [h3]
    go_wp2
    go_ret
    exact ⟨by rw [HC.out]; rfl, hb1.tr hb2⟩
  · have HC := Lib.hid hc
    clear hc
    have HV1 := Lib.hid h1
    have HV2 := Lib.hid h2
    go_enter Try.func51, Try.ntmps51
    go_wp2_with fail
    refine (c_impl_ValidPattern a _ _ HR1.out).mono ?_; rintro e w1 ⟨rfl, hb1⟩
    rw [h1]
    clear h1
    go_wp2_with fail
    refine (c_impl_ValidPattern b _ _ (HR2.out.below hb1)).mono ?_; rintro e w2 ⟨rfl, hb2⟩
    rw [h2]
    clear h2
    have B2 := hb1.tr hb2
    go_wp2_with fail
    refine (c_impl_isHeight h _).mono ?_; rintro e w3 ⟨rfl, rfl⟩; rw [h3]
    go_wp2_with fail
    refine (c_impl_highest a _ _ (HR1.out.below B2)).mono ?_; rintro e w3 ⟨rfl, rfl⟩
    go_wp2
    go_ret
    exact ⟨by rw [HC.out]; rfl, hb1.tr hb2⟩
  · have HC := Lib.hid hc
    clear hc
    have HV1 := Lib.hid h1
    have HV2 := Lib.hid h2
    go_enter Try.func51, Try.ntmps51
    go_wp2_with fail
    refine (c_impl_ValidPattern a _ _ HR1.out).mono ?_; rintro e w1 ⟨rfl, hb1⟩
    rw [h1]
    clear h1
    go_wp2_with fail
    refine (c_impl_ValidPattern b _ _ (HR2.out.below hb1)).mono ?_; rintro e w2 ⟨rfl, hb2⟩
    rw [h2]
    clear h2
    have B2 := hb1.tr hb2
    go_wp2_with fail
    refine (c_impl_isHeight h _).mono ?_; rintro e w3 ⟨rfl, rfl⟩; rw [h3]
    go_wp2_with fail
    refine (c_impl_highest a _ _ (HR1.out.below B2)).mono ?_; rintro e w3 ⟨rfl, rfl⟩
    go_wp2_with fail
    refine (c_impl_highest b _ _ (HR2.out.below B2)).mono ?_; rintro e w3 ⟨rfl, rfl⟩
    go_wp2
    go_ret
    exact ⟨by rw [HC.out]; rfl, hb1.tr hb2⟩
  · have HC := Lib.hid hc
    clear hc
    have HV1 := Lib.hid h1
    have HV2 := Lib.hid h2
    go_enter Try.func51, Try.ntmps51
    go_wp2_with fail
    refine (c_impl_ValidPattern a _ _ HR1.out).mono ?_; rintro e w1 ⟨rfl, hb1⟩
    rw [h1]
    clear h1
    go_wp2_with fail
    refine (c_impl_ValidPattern b _ _ (HR2.out.below hb1)).mono ?_; rintro e w2 ⟨rfl, hb2⟩
    rw [h2]
    clear h2
    have B2 := hb1.tr hb2
    go_wp2_with fail
    refine (c_impl_isHeight h _).mono ?_; rintro e w3 ⟨rfl, rfl⟩; rw [h3]
    go_wp2_with fail
    refine (c_impl_highest a _ _ (HR1.out.below B2)).mono ?_; rintro e w3 ⟨rfl, rfl⟩
    go_wp2_with fail
    refine (c_impl_highest b _ _ (HR2.out.below B2)).mono ?_; rintro e w3 ⟨rfl, rfl⟩
    go_wp2_with fail
    refine (c_impl_propsOf a _ _ (HR1.out.below B2) HV1.out).mono ?_; rintro e w3 ⟨rfl, rfl⟩
    go_wp2_with fail
    refine (c_impl_propsOf b _ _ (HR2.out.below B2) HV2.out).mono ?_; rintro e w3 ⟨rfl, rfl⟩
    go_wp2
    go_ret
    exact ⟨by rw [HC.out]; rfl, hb1.tr hb2⟩
  · have HC := Lib.hid hc
    clear hc
    have HV1 := Lib.hid h1
    have HV2 := Lib.hid h2
    go_enter Try.func51, Try.ntmps51
    go_wp2_with fail
    refine (c_impl_ValidPattern a _ _ HR1.out).mono ?_; rintro e w1 ⟨rfl, hb1⟩
    rw [h1]
    clear h1
    go_wp2_with fail
    refine (c_impl_ValidPattern b _ _ (HR2.out.below hb1)).mono ?_; rintro e w2 ⟨rfl, hb2⟩
    rw [h2]
    clear h2
    have B2 := hb1.tr hb2
    go_wp2_with fail
    refine (c_impl_isHeight h _).mono ?_; rintro e w3 ⟨rfl, rfl⟩; rw [h3]
    go_wp2_with fail
    refine (c_impl_highest a _ _ (HR1.out.below B2)).mono ?_; rintro e w3 ⟨rfl, rfl⟩
    go_wp2_with fail
    refine (c_impl_highest b _ _ (HR2.out.below B2)).mono ?_; rintro e w3 ⟨rfl, rfl⟩
    go_wp2_with fail
    refine (c_impl_propsOf a _ _ (HR1.out.below B2) HV1.out).mono ?_; rintro e w3 ⟨rfl, rfl⟩
    go_wp2_with fail
    refine (c_impl_propsOf b _ _ (HR2.out.below B2) HV2.out).mono ?_; rintro e w3 ⟨rfl, rfl⟩
    go_wp2
    go_ret
    exact ⟨by rw [HC.out]; rfl, hb1.tr hb2⟩
end Go.Proofs.Ytpcaaohdlcoplaa
