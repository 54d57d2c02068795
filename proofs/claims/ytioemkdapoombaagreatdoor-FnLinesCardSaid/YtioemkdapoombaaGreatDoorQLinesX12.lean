/- The law LinesX: what it rests on, part 12 of 46. -/
import Derived.Test.YtioemkdapoombaaGreatDoorQLinesX10
import Derived.Test.YtioemkdapoombaaGreatDoorQLinesX11
section
namespace Go.Proofs.YtioemkdapoombaaGreatDoor
open Go.ChangeShapes Go.WideShapes Go.ChangeAt Go.RowKit
set_option linter.unusedVariables false
set_option linter.unusedSimpArgs false
theorem mxF_take {p : List Int} {k : Nat} (hk : k < p.length) : mxF 0 (p.take (k + 1)) = max (mxF 0 (p.take k)) (p.getD k 0) := by
  rw [take_snoc _ _ hk, mxF_snoc]; simp [List.getD, hk]
theorem sum_take {p : List Int} {k : Nat} (hk : k < p.length) : (p.take (k + 1)).sum = (p.take k).sum + p.getD k 0 := by
  rw [take_snoc _ _ hk, List.sum_append]; simp [List.getD, hk]
theorem sum_bd {p : List Int} (hv : validP p = true) : ∀ k, k ≤ p.length → 0 ≤ (p.take k).sum ∧ (p.take k).sum ≤ 15 * k := by
  intro k
  induction k with
  | zero => intro _; simp
  | succ k ih =>
    intro hk
    have h1 := ih (by omega)
    have h2 := (validP_iff.1 hv).1.1 _ (at_mem (p := p) (i := k) (by omega))
    rw [sum_take (by omega)]
    omega
theorem c_spec_l00Max' (a b : Int) (w : World) : Calls Tryz.prog 143 #[.int .i64 a, .int .i64 b] w fun e w' => e = .returned (.int .i64 (max a b)) ∧ w = w' := by
  by_cases h : a > b
  · have HM : Hid (max a b = a) := by unfold Hid; omega
    go_enter Tryz.func143, Tryz.ntmps143
    go_wp2
    go_ret
    exact ⟨by rw [HM.out]; rfl, rfl⟩
  · have HM : Hid (max a b = b) := by unfold Hid; omega
    go_enter Tryz.func143, Tryz.ntmps143
    go_wp2
    go_ret
    exact ⟨by rw [HM.out]; rfl, rfl⟩
theorem c_spec_l02High (p : List Int) (v : Value) (w : World) (hr : RdI w v p) :
    Calls Tryz.prog 118 #[v] w fun e w' => e = .returned (.int .i64 (mxF 0 p)) ∧ w = w' := by
  obtain ⟨a1, cap1, rfl, hl1, hc1⟩ := hr
  go_enter Tryz.func118, Tryz.ntmps118
  go_wp2
  go_loopw [3, 4] (fun m i wr => ∃ k : Nat, k ≤ p.length ∧ i = .int .i64 k ∧ m = .int .i64 (mxF 0 (p.take k)) ∧ w = wr) (fun _ i _ => p.length - (intOf i).toNat)
  case atStart => exact ⟨0, by omega, rfl, by simp [mxF], by trivial⟩
  case round =>
    obtain ⟨k, hk, rfl, rfl, rfl⟩ := hrel
    by_cases hlt : k < p.length
    · obtain ⟨b1, o1, rfl, hx⟩ := hc1 k hlt
      have HT := Lib.hid (mxF_take hlt)
      obtain ⟨x, Hx⟩ : ∃ x, Hid (p.getD k 0 = x) := ⟨_, rfl⟩
      rw [Hx.out] at hx HT
      go_wp2_with (go_at_call 143; refine (c_spec_l00Max' _ _ _).mono ?_; rintro e w2 ⟨rfl, rfl⟩)
      go_roundw
      case rel => exact ⟨k + 1, by omega, by go_num, by rw [HT.out], by trivial⟩
      case measure => simp [intOf]; omega
    · have HA : Hid (p.take k = p) := by unfold Hid; rw [List.take_of_length_le (by omega)]
      rw [HA.out]
      go_wp2
      go_ret
      exact ⟨rfl, rfl⟩
theorem c_spec_l02Sum (p : List Int) (v : Value) (w : World) (hr : RdI w v p) (hv : validP p = true) :
    Calls Tryz.prog 91 #[v] w fun e w' => e = .returned (.int .i64 p.sum) ∧ w = w' := by
  have HSB := Lib.hid (sum_bd hv)
  have HB := Lib.hid (fun k hk => (validP_iff.1 hv).1.1 _ (at_mem (p := p) (i := k) hk))
  have hln := (validP_iff.1 hv).1.2
  obtain ⟨a1, cap1, rfl, hl1, hc1⟩ := hr
  clear hv
  go_enter Tryz.func91, Tryz.ntmps91
  go_wp2
  go_loopw [3, 4] (fun m i wr => ∃ k : Nat, k ≤ p.length ∧ i = .int .i64 k ∧ m = .int .i64 ((p.take k).sum) ∧ w = wr) (fun _ i _ => p.length - (intOf i).toNat)
  case atStart => exact ⟨0, by omega, rfl, by simp, by trivial⟩
  case round =>
    obtain ⟨k, hk, rfl, rfl, rfl⟩ := hrel
    have hsb := HSB.out k hk
    by_cases hlt : k < p.length
    · obtain ⟨b1, o1, rfl, hx⟩ := hc1 k hlt
      have HT := Lib.hid (sum_take hlt)
      have hbd := HB.out k hlt
      obtain ⟨x, Hx⟩ : ∃ x, Hid (p.getD k 0 = x) := ⟨_, rfl⟩
      rw [Hx.out] at hx HT hbd
      go_wp2
      go_roundw
      case rel => exact ⟨k + 1, by omega, by go_num, by rw [HT.out], by trivial⟩
      case measure => simp [intOf]; omega
    · have HA : Hid (p.take k = p) := by unfold Hid; rw [List.take_of_length_le (by omega)]
      rw [HA.out]
      go_wp2
      go_ret
      exact ⟨rfl, rfl⟩
theorem c_spec_l02Props (p : List Int) (v : Value) (w : World) (hr : RdI w v p) (hv : validP p = true) :
    Calls Tryz.prog 54 #[v] w fun e w' => e = .returned (.int .i64 (propsP p)) ∧ w = w' := by
  have HR := Lib.hid hr
  have HV := Lib.hid hv
  have hln := (validP_iff.1 hv).1.2
  have hsb := sum_bd hv p.length (Nat.le_refl _)
  rw [List.take_length] at hsb
  have HP : Hid (propsP p = p.sum / (p.length : Int)) := rfl
  have hpos : (0 : Int) < (p.length : Int) := by omega
  obtain ⟨a1, cap1, rfl, hl1, hc1⟩ := hr
  clear hv
  go_enter Tryz.func54, Tryz.ntmps54
  go_wp2_with (go_at_call 91; refine (c_spec_l02Sum p _ _ HR.out HV.out).mono ?_; rintro e w2 ⟨rfl, rfl⟩)
  go_ret
  exact ⟨by rw [HP.out]; rfl, rfl⟩
end Go.Proofs.YtioemkdapoombaaGreatDoor
end
section
namespace Go.Proofs.YtioemkdapoombaaGreatDoor
open Go.ChangeShapes Go.WideShapes Go.ChangeAt Go.RowKit
set_option linter.unusedVariables false
set_option linter.unusedSimpArgs false
def fitB (a b : List Int) (h : Int) : Bool := !decide (mxF 0 a > h) && !decide (mxF 0 b > h) && propsP a == propsP b
def brC (a b : List Int) (h : Int) : Int := bif validP a && validP b then (bif inB h 1 10 then (bif fitB a b h then 0 else 6) else 2) else 1
theorem brC_ok {a b : List Int} {h : Int} (hc : brC a b h = 0) : (validP a = true ∧ validP b = true) ∧ (1 ≤ h ∧ h ≤ 10) ∧ ((∀ x ∈ a, x ≤ h) ∧ ∀ x ∈ b, x ≤ h) ∧ propsP a = propsP b := by
  unfold brC at hc
  cases h1 : validP a <;> cases h2 : validP b <;> rw [h1, h2] at hc <;> simp at hc
  cases h3 : inB h 1 10
  · rw [h3] at hc; simp at hc
  · rw [h3] at hc
    cases h4 : fitB a b h
    · rw [h4] at hc; simp at hc
    · unfold fitB at h4
      rw [Bool.and_eq_true, Bool.and_eq_true] at h4
      obtain ⟨⟨k1, k2⟩, k3⟩ := h4
      have k1 : ¬ mxF 0 a > h := by simpa using k1
      have k2 : ¬ mxF 0 b > h := by simpa using k2
      refine ⟨⟨rfl, rfl⟩, inB_iff.1 h3, ⟨fun x hx => ?_, fun x hx => ?_⟩, by simpa using k3⟩
      · have := (mxF_ge 0 a).2.1 x hx; omega
      · have := (mxF_ge 0 b).2.1 x hx; omega
theorem brC_cases (a b : List Int) (h : Int) : (validP a = false ∧ brC a b h = 1) ∨ (validP a = true ∧ validP b = false ∧ brC a b h = 1) ∨ (validP a = true ∧ validP b = true ∧ inB h 1 10 = false ∧ brC a b h = 2) ∨
    (validP a = true ∧ validP b = true ∧ inB h 1 10 = true ∧ mxF 0 a > h ∧ brC a b h = 6) ∨ (validP a = true ∧ validP b = true ∧ inB h 1 10 = true ∧ ¬ mxF 0 a > h ∧ mxF 0 b > h ∧ brC a b h = 6) ∨
    (validP a = true ∧ validP b = true ∧ inB h 1 10 = true ∧ ¬ mxF 0 a > h ∧ ¬ mxF 0 b > h ∧ (propsP a != propsP b) = true ∧ brC a b h = 6) ∨
    (validP a = true ∧ validP b = true ∧ inB h 1 10 = true ∧ ¬ mxF 0 a > h ∧ ¬ mxF 0 b > h ∧ (propsP a != propsP b) = false ∧ brC a b h = 0) := by
  unfold brC fitB
  cases h1 : validP a
  · left; exact ⟨rfl, rfl⟩
  · right
    cases h2 : validP b
    · left; exact ⟨rfl, rfl, rfl⟩
    · right
      cases h3 : inB h 1 10
      · left; exact ⟨rfl, rfl, rfl, rfl⟩
      · right
        by_cases h4 : mxF 0 a > h
        · left; exact ⟨rfl, rfl, rfl, h4, by simp [h4]⟩
        · right
          by_cases h5 : mxF 0 b > h
          · left; exact ⟨rfl, rfl, rfl, h4, h5, by simp [h4, h5]⟩
          · right
            cases h6 : (propsP a == propsP b)
            · left; exact ⟨rfl, rfl, rfl, h4, h5, by rw [bne, h6]; rfl, by simp [h4, h5]⟩
            · right; exact ⟨rfl, rfl, rfl, h4, h5, by rw [bne, h6]; rfl, by simp [h4, h5]⟩
end Go.Proofs.YtioemkdapoombaaGreatDoor
end
