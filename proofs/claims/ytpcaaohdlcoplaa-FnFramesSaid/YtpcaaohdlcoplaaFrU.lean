/- Contracts: how many props are held at a tick. -/
import Derived.Test.YtpcaaohdlcoplaaFrF
import Derived.Test.YtpcaaohdlcoplaaPlainFd
namespace Go.Proofs.Ytpcaaohdlcoplaa
open Go.ChangeShapes Go.WideShapes Go.ChangeAt Go.RowKit
set_option linter.unusedVariables false
set_option linter.unusedSimpArgs false
theorem heldN_succ (p : List Int) (B D t : Int) (j : Nat) : heldN p B D t (j + 1) = heldN p B D t j + if heldB p B D t (t / B + j) = true then 1 else 0 := by
  unfold heldN
  simp only [sumN]
set_option maxHeartbeats 4000000 in
set_option maxRecDepth 100000 in
theorem c_spec_l15Held (p : List Int) (B D t : Int) (v : Value) (w : World) (hr : RdI w v p) (hv : validP p = true) (hB : 2 ≤ B ∧ B ≤ 30) (hD : 1 ≤ D ∧ D ≤ 60) (ht : 0 ≤ t ∧ t ≤ 3000) :
    Calls Try.prog 88 #[v, .agg #[.int .i64 B, .int .i64 D], .int .i64 t] w fun e w' => e = .returned (.int .i64 (heldN p B D t 4)) ∧ Below w.heap.size w w' := by
  obtain ⟨W0, hW0, k0, k1, B0⟩ := oneState w 58 B D
  have HR : Hid (RdI W0 v p) := Lib.hid (hr.below B0)
  have HV := Lib.hid hv
  have HLN := Lib.hid (validP_iff.1 hv).1.2
  have hdiv : 0 ≤ t / B := Int.ediv_nonneg ht.1 (by omega)
  have hdiv2 : t / B ≤ t := Int.ediv_le_self B ht.1
  obtain ⟨q, hq⟩ : ∃ q : Nat, t / B = (q : Int) := ⟨(t / B).toNat, by omega⟩
  have hqb : q ≤ 3000 := by omega
  have HS := Lib.hid (heldN_succ p B D t)
  have H0 : Hid (heldN p B D t 0 = 0) := rfl
  rw [hq] at HS
  have HQ := Lib.hid hq
  clear hr hv hdiv hdiv2
  go_enter Try.func88, Try.ntmps88
  go_wp2_with fail
  rw [← hW0]
  clear hW0
  go_wp2
  rw [hq]
  clear hq
  go_loopw [7, 8] (fun n i wr => ∃ j : Nat, j ≤ 4 ∧ i = .int .i64 ((q : Int) + j) ∧ n = .int .i64 (heldN p B D t j) ∧ W0 = wr) (fun _ i _ => 5 + q - (intOf i).toNat)
  case atStart => exact ⟨0, by omega, by go_num, by rw [H0.out], by trivial⟩
  case round =>
    obtain ⟨j, hj, rfl, rfl, rfl⟩ := hrel
    have hq := HQ.out
    by_cases hlt : j < 4
    · have hb := heldN_bd p B D t j
      have HSj := HS.out j
      obtain ⟨N, hN⟩ : ∃ N, heldN p B D t j = N := ⟨_, rfl⟩
      rw [hN] at hb HSj ⊢
      have hw3 : IntKind.i64.wrap (t / B + 3) = (q : Int) + 3 := by rw [hq]; exact IntWalk.i64_in _ (by omega)
      have tl : decide ((q : Int) + j ≤ q + 3) = true := by simp; omega
      go_wp2_with fail
      refine (c_spec_l02At p ((q : Int) + j) _ _ HR.out HLN.out (by omega)).mono ?_; rintro e w2 ⟨rfl, rfl⟩
      have hab := at_bd HV.out ((q : Int) + j)
      have hm := bt_bd (b := (q : Int) + j) (M := 3004) (by omega) hB
      obtain ⟨M, hM⟩ : ∃ M, ((q : Int) + j) * B = M := ⟨_, rfl⟩
      rw [hM] at hm
      have hw1 : IntKind.i64.wrap (((q : Int) + j) * B) = M := by rw [hM]; exact IntWalk.i64_in _ (by omega)
      have HE : Hid (heldB p B D t ((q : Int) + j) = (decide (0 < atP p ((q : Int) + j)) && decide (M - D ≤ t) && decide (t < M))) := by unfold Hid heldB; rw [hM]
      obtain ⟨A, hA⟩ : ∃ A, p.getD (((q : Int) + j) % (p.length : Int)).toNat 0 = A := ⟨_, rfl⟩
      have hA2 : atP p ((q : Int) + j) = A := hA
      rw [hA]
      rw [hA2] at hab HE
      have HSJ := Lib.hid HSj
      clear HSj hA hA2 hM hN
      by_cases h0 : 0 < A
      · by_cases h1 : M - D ≤ t
        · by_cases h2 : t < M
          · have HN : Hid (heldN p B D t (j + 1) = N + 1) := by unfold Hid; rw [HSJ.out, HE.out]; simp [h0, h1, h2]
            go_wp2
            all_goals (go_roundw; (case rel => exact ⟨j + 1, by omega, by go_num, by rw [HN.out], by trivial⟩); (case measure => (simp [intOf]; omega)))
          · have HN : Hid (heldN p B D t (j + 1) = N) := by unfold Hid; rw [HSJ.out, HE.out]; simp [h2]
            go_wp2
            all_goals (go_roundw; (case rel => exact ⟨j + 1, by omega, by go_num, by rw [HN.out], by trivial⟩); (case measure => (simp [intOf]; omega)))
        · have HN : Hid (heldN p B D t (j + 1) = N) := by unfold Hid; rw [HSJ.out, HE.out]; simp [h1]
          go_wp2
          all_goals (go_roundw; (case rel => exact ⟨j + 1, by omega, by go_num, by rw [HN.out], by trivial⟩); (case measure => (simp [intOf]; omega)))
      · have HN : Hid (heldN p B D t (j + 1) = N) := by unfold Hid; rw [HSJ.out, HE.out]; simp [h0]
        go_wp2
        all_goals (go_roundw; (case rel => exact ⟨j + 1, by omega, by go_num, by rw [HN.out], by trivial⟩); (case measure => (simp [intOf]; omega)))
    · obtain rfl : j = 4 := by omega
      have hw3 : IntKind.i64.wrap (t / B + 3) = (q : Int) + 3 := by rw [hq]; exact IntWalk.i64_in _ (by omega)
      go_wp2
      go_ret
      exact ⟨rfl, B0⟩
theorem c_spec_InHands (p : List Int) (B D t : Int) (v : Value) (w : World) (hr : RdI w v p) (hv : validP p = true) (hT : validT B D = true) (hf : fitsP p B D = true) (ht : 0 ≤ t ∧ t ≤ 3000) :
    Calls Try.prog 40 #[v, .agg #[.int .i64 B, .int .i64 D], .int .i64 t] w fun e w' => e = .returned (.tuple #[.int .i64 (heldN p B D t 4), .int .i64 0]) ∧ Below w.heap.size w w' := by
  obtain ⟨W0, hW0, k0, k1, B0⟩ := oneState w 58 B D
  have hRx := hr.below B0
  have hRd : RdI W0.drew v p := hRx
  obtain ⟨hB, hD⟩ := validT_bd hT
  have HV := Lib.hid hv
  have HC : Hid (lCode p B D true = 0) := by unfold Hid lCode; rw [if_neg (by simp [hv]), if_neg (by simp [hT]), if_neg (by simp [hf])]
  have HI : Hid (inB t 0 3000 = true) := inB_iff.2 ht
  have HRx := Lib.hid hRx
  clear hr hv hT hf hRx
  go_enter Try.func40, Try.ntmps40
  go_wp2_with fail
  rw [← hW0]
  clear hW0
  go_region_held3 (fun w' => w'.cell? ⟨w.heap.size, 0, none⟩ = some (.int .i64 B) ∧ w'.cell? ⟨w.heap.size, 1, none⟩ = some (.int .i64 D))
    (go_keep)
    (first
      | ((go_at_call 63; refine (c_spec_l00In t 0 3000 _).mono ?_; rintro e w1 ⟨rfl, rfl⟩; rw [HI.out]))
      | ((go_at_call 87; refine (c_spec_l15Code p B D true _ _ hRd).mono ?_; rintro e w2 ⟨rfl, hb2⟩; rw [HC.out]; have hb2 := below_drew hb2; have k0 := keepc hb2 k0; have k1 := keepc hb2 k1)))
  have hR2 : RdI w2 v p := HRx.out.below hb2
  go_wp2_with fail
  refine (c_spec_l15Held p B D t _ _ hR2 HV.out hB (by omega) ht).mono ?_; rintro e w3 ⟨rfl, hb3⟩
  go_wp2
  go_ret2
  exact ⟨rfl, (B0.tr hb2).tr hb3⟩
theorem c_spec_PropsOfF (p : List Int) (v : Value) (w : World) (hr : RdI w v p) (hv : validP p = true) :
    Calls Try.prog 14 #[v] w fun e w' => e = .returned (.tuple #[.int .i64 (propsP p), .int .i64 0]) ∧ Below w.heap.size w w' := by
  have HR := Lib.hid hr
  have HV := Lib.hid hv
  clear hr hv
  go_enter Try.func14, Try.ntmps14
  go_wp2_with fail
  refine (c_spec_l02Ok p _ _ HR.out).mono ?_; rintro e w1 ⟨rfl, hb1⟩; rw [HV.out]
  go_wp2_with fail
  refine (c_spec_l02Props p _ _ (HR.out.below hb1) HV.out).mono ?_; rintro e w2 ⟨rfl, rfl⟩
  go_wp2
  go_ret2
  exact ⟨rfl, hb1⟩
end Go.Proofs.Ytpcaaohdlcoplaa
