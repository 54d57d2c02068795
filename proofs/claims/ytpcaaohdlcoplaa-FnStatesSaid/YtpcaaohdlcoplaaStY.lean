/- Contracts and plain facts that the law on states wants, further: the text of a state is read back; StatesOf of the program. -/
import Derived.Test.YtpcaaohdlcoplaaStX
namespace Go.Proofs.Ytpcaaohdlcoplaa
open Go.ChangeShapes Go.WideShapes Go.ChangeAt Go.RowKit
set_option linter.unusedVariables false
set_option linter.unusedSimpArgs false
theorem chr_nums {L : List Int} {i : Nat} (hi : i < L.length) (hb : 0 ≤ L[i] ∧ L[i] ≤ 255) : chr (strOfNums L) i = L[i] := by
  have h1 : i < (strOfNums L).size := by rw [strOfNums_size]; exact hi
  rw [← chr_at h1]
  have h2 : (strOfNums L)[i] = UInt8.ofNat (L[i]).toNat := by
    show (strOfNums L).data[i] = _
    simp [strOfNums]
  rw [h2]
  have h3 : (UInt8.ofNat (L[i]).toNat).toNat = (L[i]).toNat := by
    rw [UInt8.toNat_ofNat']
    exact Nat.mod_eq_of_lt (by omega)
  rw [h3]
  omega
theorem chr_st {h m : Int} {t : Nat} (ht : t < h.toNat) : chr (stT h m) t = 48 + m / 2 ^ t % 2 := by
  have hl : t < (btxTo m h.toNat).length := by rw [btxTo_len]; exact ht
  have e : (btxTo m h.toNat)[t] = btxN m t := by simp [btxTo]
  have hb := btx_bd m t
  unfold stT
  rw [chr_nums hl (by rw [e]; omega), e]
  rfl
theorem bit_rs (s : ByteArray) : ∀ (k t : Nat), bitB (rsM s k) (t : Int) = (decide (t < k) && decide (chr s t = 49))
  | 0, t => by rw [show rsM s 0 = 0 from rfl, bit_zero]; simp
  | k + 1, t => by
    have ih := bit_rs s k t
    have hb := (rsM_bd s k).1
    by_cases hs : chr s k = 49
    · have e : rsM s (k + 1) = (((rsM s k).toNat ||| 2 ^ k : Nat) : Int) := by show (if _ then _ else _) = _; rw [if_pos hs]
      rw [e, bit_or, show (((rsM s k).toNat : Nat) : Int) = rsM s k by omega, ih]
      by_cases e : t = k
      · subst e; simp [hs]
      · have h1 : (t < k + 1) ↔ (t < k) := by omega
        have h2 : ¬ k = t := fun h => e h.symm
        simp only [h1, h2, decide_false, Bool.or_false]
    · have e : rsM s (k + 1) = rsM s k := by show (if _ then _ else _) = _; rw [if_neg hs]
      rw [e, ih]
      by_cases e : t = k
      · subst e; simp [hs]
      · have h1 : (t < k + 1) ↔ (t < k) := by omega
        simp only [h1]
theorem read_text {h m : Int} (hh : 1 ≤ h ∧ h ≤ 10) (hm : 0 ≤ m ∧ m < 2 ^ h.toNat) : rsB (stT h m) = true ∧ ((stT h m).size : Int) = h ∧ rsM (stT h m) (stT h m).size = m := by
  have hsz := stT_size h m
  refine ⟨?_, by omega, ?_⟩
  · unfold rsB
    rw [inB_iff.2 (show (1 : Int) ≤ ((stT h m).size : Int) ∧ ((stT h m).size : Int) ≤ 10 by omega), Bool.true_and]
    refine rsA_yes fun i hi => ?_
    rw [chr_st (by omega)]
    have := Int.emod_nonneg (m / 2 ^ i) (show (2 : Int) ≠ 0 by decide)
    have := Int.emod_lt_of_pos (m / 2 ^ i) (show (0 : Int) < 2 by decide)
    omega
  · refine eq_of_bits (rsM_bd _ _).1 hm.1 fun t => ?_
    rw [bit_rs, hsz]
    by_cases ht : t < h.toNat
    · rw [decide_eq_true ht, Bool.true_and, chr_st ht, bitB_mod]
      have : (48 + m / 2 ^ t % 2 = 49) ↔ (m / 2 ^ t % 2 = 1) := by omega
      simp only [this]
    · rw [decide_eq_false ht, Bool.false_and, bit_high hm.1 (j := h.toNat) hm.2 (by omega)]
theorem throws_some {h m : Int} (hh : 1 ≤ h ∧ h ≤ 10) (hm : 0 ≤ m ∧ m < 2 ^ h.toNat) : 0 < (throwsL h m).length := by
  cases h0 : bitB m 0
  · have hc : canB h m 0 = true := canB_iff.2 (Or.inl ⟨rfl, h0⟩)
    exact List.length_pos_of_mem ((mem_throwsL (by omega)).2 ⟨by omega, hc⟩)
  · have hb : bitB m h = false := by
      have := bit_high hm.1 (j := h.toNat) (t := h.toNat) hm.2 (Nat.le_refl _)
      rwa [show ((h.toNat : Nat) : Int) = h by omega] at this
    have hc : canB h m h = true := canB_iff.2 (Or.inr ⟨by omega, by omega, h0, hb⟩)
    exact List.length_pos_of_mem ((mem_throwsL (by omega)).2 ⟨by omega, hc⟩)
theorem throws_up (h m : Int) : (throwsL h m).Pairwise (· < ·) := by
  unfold throwsL throwsTo
  refine List.Pairwise.filter _ ?_
  rw [List.pairwise_map]
  exact List.pairwise_lt_range.imp (fun h => by simpa using h)
theorem c_impl_stateCode (p : List Int) (h : Int) (v : Value) (w : World) (hr : RdI w v p) (hv : validP p = true) (hh : 1 ≤ h ∧ h ≤ 10) (hp : mxF 0 p ≤ h) :
    Calls Try.prog 82 #[v, .int .i64 0, .int .i64 h] w fun e w' => e = .returned (.int .i64 0) ∧ Below w.heap.size w w' := by
  have HR := Lib.hid hr
  have HV := Lib.hid hv
  have h1 := inB_iff.2 hh
  have h0 : inB 0 (-1000) 1000 = true := by decide
  have tg : decide (h < mxF 0 p) = false := by simp; omega
  clear hr hv
  go_enter Try.func82, Try.ntmps82
  go_wp2_with fail
  refine (c_impl_ValidPattern p _ _ HR.out).mono ?_; rintro e w1 ⟨rfl, hb1⟩; rw [HV.out]
  go_wp2_with fail
  refine (c_impl_between 0 (-1000) 1000 _).mono ?_; rintro e w2 ⟨rfl, rfl⟩; rw [h0]
  go_wp2_with fail
  refine (c_impl_isHeight h _).mono ?_; rintro e w2 ⟨rfl, rfl⟩; rw [h1]
  go_wp2_with fail
  refine (c_impl_highest p _ _ (HR.out.below hb1)).mono ?_; rintro e w2 ⟨rfl, rfl⟩
  go_wp2
  go_ret
  exact ⟨rfl, hb1⟩
theorem c_impl_StatesOf (p : List Int) (h : Int) (v : Value) (w : World) (hr : RdI w v p) (hv : validP p = true) (hh : 1 ≤ h ∧ h ≤ 10) (hp : mxF 0 p ≤ h) :
    Calls Try.prog 34 #[v, .int .i64 h] w fun e w' => ∃ u, e = .returned (.tuple #[u, .int .i64 0]) ∧ OwnS w.heap.size w'.heap.size h w' u (stsL p h) ∧ Below w.heap.size w w' := by
  have HR := Lib.hid hr
  have HV := Lib.hid hv
  clear hr hv
  go_enter Try.func34, Try.ntmps34
  go_wp2_with fail
  refine (c_impl_stateCode p h _ _ HR.out HV.out hh hp).mono ?_; rintro e w1 ⟨rfl, hb1⟩
  go_wp2_with fail
  refine (c_impl_statesOf p h _ _ (HR.out.below hb1) HV.out hh).mono ?_; rintro e w2 ⟨u, rfl, ho, hb2⟩
  go_wp2
  go_ret2
  exact ⟨u, rfl, ho.wide (by have := hb1.size; omega) (Nat.le_refl _), hb1.tr hb2⟩
end Go.Proofs.Ytpcaaohdlcoplaa
