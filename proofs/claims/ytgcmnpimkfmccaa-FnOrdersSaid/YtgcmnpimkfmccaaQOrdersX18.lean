/- The law OrdersX: what it rests on, part 18 of 48. -/
import Derived.Test.YtgcmnpimkfmccaaQOrdersX14
import Derived.Test.YtgcmnpimkfmccaaQOrdersX17
namespace Go.Proofs.Ytgcmnpimkfmccaa
open Go.ChangeShapes Go.WideShapes Go.ChangeAt Go.RowKit
set_option linter.unusedVariables false
set_option linter.unusedSimpArgs false
theorem mxF_take {p : List Int} {k : Nat} (hk : k < p.length) : mxF 0 (p.take (k + 1)) = max (mxF 0 (p.take k)) (p.getD k 0) := by
  rw [take_snoc _ _ hk, mxF_snoc]; simp [List.getD, hk]
theorem sum_take {p : List Int} {k : Nat} (hk : k < p.length) : (p.take (k + 1)).sum = (p.take k).sum + p.getD k 0 := by
  rw [take_snoc _ _ hk, List.sum_append]; simp [List.getD, hk]
theorem sum_bd {p : List Int} (hv : validP p = true) : ∀ k, k ≤ p.length → 0 ≤ (p.take k).sum ∧ (p.take k).sum ≤ 15 * k := by
  intro k
  induction k with
  | zero => intro _; simp
  | succ k ih =>
    intro hk
    have h1 := ih (by omega)
    have h2 := (validP_iff.1 hv).1.1 _ (at_mem (p := p) (i := k) (by omega))
    rw [sum_take (by omega)]
    omega
theorem c_impl_highest (p : List Int) (v : Value) (w : World) (hr : RdI w v p) :
    Calls Try.prog 85 #[v] w fun e w' => e = .returned (.int .i64 (mxF 0 p)) ∧ w = w' := by
  obtain ⟨a1, cap1, rfl, hl1, hc1⟩ := hr
  go_enter Try.func85, Try.ntmps85
  go_wp2
  go_loopw [3, 8] (fun m i wr => ∃ k : Nat, k ≤ p.length ∧ i = .int .i64 k ∧ m = .int .i64 (mxF 0 (p.take k)) ∧ w = wr) (fun _ i _ => p.length - (intOf i).toNat)
  case atStart => exact ⟨0, by omega, rfl, by simp [mxF], by trivial⟩
  case round =>
    obtain ⟨k, hk, rfl, rfl, rfl⟩ := hrel
    by_cases hlt : k < p.length
    · obtain ⟨b1, o1, rfl, hx⟩ := hc1 k hlt
      have HT := Lib.hid (mxF_take hlt)
      obtain ⟨x, Hx⟩ : ∃ x, Hid (p.getD k 0 = x) := ⟨_, rfl⟩
      rw [Hx.out] at hx HT
      go_wp2
      go_roundw
      case rel => exact ⟨k + 1, by omega, by go_num, by rw [HT.out]; congr 1; split <;> omega, by trivial⟩
      case measure => simp [intOf]; omega
    · have HA : Hid (p.take k = p) := by unfold Hid; rw [List.take_of_length_le (by omega)]
      rw [HA.out]
      go_wp2
      go_ret
      exact ⟨rfl, rfl⟩
theorem c_spec_l00Max' (a b : Int) (w : World) : Calls Try.prog 113 #[.int .i64 a, .int .i64 b] w fun e w' => e = .returned (.int .i64 (max a b)) ∧ w = w' := by
  by_cases h : a > b
  · have HM : Hid (max a b = a) := by unfold Hid; omega
    go_enter Try.func113, Try.ntmps113
    go_wp2
    go_ret
    exact ⟨by rw [HM.out]; rfl, rfl⟩
  · have HM : Hid (max a b = b) := by unfold Hid; omega
    go_enter Try.func113, Try.ntmps113
    go_wp2
    go_ret
    exact ⟨by rw [HM.out]; rfl, rfl⟩
theorem c_spec_l02High (p : List Int) (v : Value) (w : World) (hr : RdI w v p) :
    Calls Try.prog 82 #[v] w fun e w' => e = .returned (.int .i64 (mxF 0 p)) ∧ w = w' := by
  obtain ⟨a1, cap1, rfl, hl1, hc1⟩ := hr
  go_enter Try.func82, Try.ntmps82
  go_wp2
  go_loopw [3, 4] (fun m i wr => ∃ k : Nat, k ≤ p.length ∧ i = .int .i64 k ∧ m = .int .i64 (mxF 0 (p.take k)) ∧ w = wr) (fun _ i _ => p.length - (intOf i).toNat)
  case atStart => exact ⟨0, by omega, rfl, by simp [mxF], by trivial⟩
  case round =>
    obtain ⟨k, hk, rfl, rfl, rfl⟩ := hrel
    by_cases hlt : k < p.length
    · obtain ⟨b1, o1, rfl, hx⟩ := hc1 k hlt
      have HT := Lib.hid (mxF_take hlt)
      obtain ⟨x, Hx⟩ : ∃ x, Hid (p.getD k 0 = x) := ⟨_, rfl⟩
      rw [Hx.out] at hx HT
      go_wp2_with (go_at_call 113; refine (c_spec_l00Max' _ _ _).mono ?_; rintro e w2 ⟨rfl, rfl⟩)
      go_roundw
      case rel => exact ⟨k + 1, by omega, by go_num, by rw [HT.out], by trivial⟩
      case measure => simp [intOf]; omega
    · have HA : Hid (p.take k = p) := by unfold Hid; rw [List.take_of_length_le (by omega)]
      rw [HA.out]
      go_wp2
      go_ret
      exact ⟨rfl, rfl⟩
theorem c_impl_propsOf (p : List Int) (v : Value) (w : World) (hr : RdI w v p) (hv : validP p = true) :
    Calls Try.prog 49 #[v] w fun e w' => e = .returned (.int .i64 (propsP p)) ∧ w = w' := by
  have HSB := Lib.hid (sum_bd hv)
  have hln := (validP_iff.1 hv).1.2
  have HB := Lib.hid (fun k hk => (validP_iff.1 hv).1.1 _ (at_mem (p := p) (i := k) hk))
  obtain ⟨a1, cap1, rfl, hl1, hc1⟩ := hr
  clear hv
  go_enter Try.func49, Try.ntmps49
  go_wp2
  go_loopw [3, 8] (fun m i wr => ∃ k : Nat, k ≤ p.length ∧ i = .int .i64 k ∧ m = .int .i64 ((p.take k).sum) ∧ w = wr) (fun _ i _ => p.length - (intOf i).toNat)
  case atStart => exact ⟨0, by omega, rfl, by simp, by trivial⟩
  case round =>
    obtain ⟨k, hk, rfl, rfl, rfl⟩ := hrel
    have hsb := HSB.out k hk
    by_cases hlt : k < p.length
    · obtain ⟨b1, o1, rfl, hx⟩ := hc1 k hlt
      have HT := Lib.hid (sum_take hlt)
      have hbd := HB.out k hlt
      obtain ⟨x, Hx⟩ : ∃ x, Hid (p.getD k 0 = x) := ⟨_, rfl⟩
      rw [Hx.out] at hx HT hbd
      go_wp2
      go_roundw
      case rel => exact ⟨k + 1, by omega, by go_num, by rw [HT.out], by trivial⟩
      case measure => simp [intOf]; omega
    · have HA : Hid (p.take k = p) := by unfold Hid; rw [List.take_of_length_le (by omega)]
      have HP : Hid (propsP p = p.sum / (p.length : Int)) := rfl
      rw [HA.out] at hsb
      rw [HA.out]
      have hpos : (0 : Int) < (p.length : Int) := by omega
      generalize p.sum = s at *
      go_wp2_with (go_at_call 33; refine (c_impl_period _ _ _ _ (by omega)).mono ?_; rintro e w1 ⟨rfl, rfl⟩)
      go_ret
      exact ⟨by rw [HP.out]; rfl, rfl⟩
theorem c_spec_l02Sum (p : List Int) (v : Value) (w : World) (hr : RdI w v p) (hv : validP p = true) :
    Calls Try.prog 87 #[v] w fun e w' => e = .returned (.int .i64 p.sum) ∧ w = w' := by
  have HSB := Lib.hid (sum_bd hv)
  have HB := Lib.hid (fun k hk => (validP_iff.1 hv).1.1 _ (at_mem (p := p) (i := k) hk))
  have hln := (validP_iff.1 hv).1.2
  obtain ⟨a1, cap1, rfl, hl1, hc1⟩ := hr
  clear hv
  go_enter Try.func87, Try.ntmps87
  go_wp2
  go_loopw [3, 4] (fun m i wr => ∃ k : Nat, k ≤ p.length ∧ i = .int .i64 k ∧ m = .int .i64 ((p.take k).sum) ∧ w = wr) (fun _ i _ => p.length - (intOf i).toNat)
  case atStart => exact ⟨0, by omega, rfl, by simp, by trivial⟩
  case round =>
    obtain ⟨k, hk, rfl, rfl, rfl⟩ := hrel
    have hsb := HSB.out k hk
    by_cases hlt : k < p.length
    · obtain ⟨b1, o1, rfl, hx⟩ := hc1 k hlt
      have HT := Lib.hid (sum_take hlt)
      have hbd := HB.out k hlt
      obtain ⟨x, Hx⟩ : ∃ x, Hid (p.getD k 0 = x) := ⟨_, rfl⟩
      rw [Hx.out] at hx HT hbd
      go_wp2
      go_roundw
      case rel => exact ⟨k + 1, by omega, by go_num, by rw [HT.out], by trivial⟩
      case measure => simp [intOf]; omega
    · have HA : Hid (p.take k = p) := by unfold Hid; rw [List.take_of_length_le (by omega)]
      rw [HA.out]
      go_wp2
      go_ret
      exact ⟨rfl, rfl⟩
theorem c_spec_l02Props (p : List Int) (v : Value) (w : World) (hr : RdI w v p) (hv : validP p = true) :
    Calls Try.prog 51 #[v] w fun e w' => e = .returned (.int .i64 (propsP p)) ∧ w = w' := by
  have HR := Lib.hid hr
  have HV := Lib.hid hv
  have hln := (validP_iff.1 hv).1.2
  have hsb := sum_bd hv p.length (Nat.le_refl _)
  rw [List.take_length] at hsb
  have HP : Hid (propsP p = p.sum / (p.length : Int)) := rfl
  have hpos : (0 : Int) < (p.length : Int) := by omega
  obtain ⟨a1, cap1, rfl, hl1, hc1⟩ := hr
  clear hv
  go_enter Try.func51, Try.ntmps51
  go_wp2_with (go_at_call 87; refine (c_spec_l02Sum p _ _ HR.out HV.out).mono ?_; rintro e w2 ⟨rfl, rfl⟩)
  go_ret
  exact ⟨by rw [HP.out]; rfl, rfl⟩
end Go.Proofs.Ytgcmnpimkfmccaa
