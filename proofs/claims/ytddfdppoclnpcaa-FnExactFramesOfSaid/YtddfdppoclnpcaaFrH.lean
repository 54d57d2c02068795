/- Contracts: the codes of the functions on frames. -/
import Derived.Test.YtddfdppoclnpcaaFrG
namespace Go.Proofs.Ytddfdppoclnpcaa
open Go.ChangeShapes Go.WideShapes Go.ChangeAt Go.RowKit
set_option linter.unusedVariables false
set_option linter.unusedSimpArgs false
theorem frC_ne {p : List Int} {B D x : Int} (t : Int) (h : fCode p B D x ≠ 0) : Hid (frCode p B D x t = fCode p B D x) := by unfold Hid frCode; rw [if_pos h]
theorem frC_no {p : List Int} {B D x t : Int} (h : fCode p B D x = 0) (h2 : inB t 0 3000 = false) : Hid (frCode p B D x t = 2) := by unfold Hid frCode; rw [if_neg (by simp [h]), if_pos h2]
theorem frC_ok {p : List Int} {B D x t : Int} (h : fCode p B D x = 0) (h2 : inB t 0 3000 = true) : Hid (frCode p B D x t = 0) := by unfold Hid frCode; rw [if_neg (by simp [h]), if_neg (by simp [h2])]
set_option maxHeartbeats 2000000 in
theorem c_spec_l26Code (p : List Int) (B D x t : Int) (v : Value) (w : World) (hr : RdI w v p) :
    Calls Try.prog 64 #[v, .agg #[.int .i64 B, .int .i64 D], .int .i64 x, .int .i64 t] w fun e w' => e = .returned (.int .i64 (frCode p B D x t)) ∧ Below w.heap.size w w' := by
  obtain ⟨W0, hW0, k0, k1, B0⟩ := oneState w 54 B D
  have HR : Hid (RdI W0 v p) := Lib.hid (hr.below B0)
  clear hr
  by_cases hL : fCode p B D x = 0
  · cases hi : inB t 0 3000
    · have HC := frC_no hL hi
      have HL := Lib.hid hL
      clear hL
      go_enter Try.func64, Try.ntmps64
      go_wp2_with fail
      rw [← hW0]
      clear hW0
      refine (c_spec_l16Ask p B D x _ _ HR.out).mono ?_; rintro e w2 ⟨rfl, hb2⟩; rw [HL.out]
      go_wp2_with fail
      refine (c_spec_l00In t 0 3000 _).mono ?_; rintro e w3 ⟨rfl, rfl⟩; rw [hi]
      go_wp2
      go_ret
      exact ⟨by rw [HC.out]; rfl, B0.tr hb2⟩
    · have HC := frC_ok hL hi
      have HL := Lib.hid hL
      clear hL
      go_enter Try.func64, Try.ntmps64
      go_wp2_with fail
      rw [← hW0]
      clear hW0
      refine (c_spec_l16Ask p B D x _ _ HR.out).mono ?_; rintro e w2 ⟨rfl, hb2⟩; rw [HL.out]
      go_wp2_with fail
      refine (c_spec_l00In t 0 3000 _).mono ?_; rintro e w3 ⟨rfl, rfl⟩; rw [hi]
      go_wp2
      go_ret
      exact ⟨by rw [HC.out]; rfl, B0.tr hb2⟩
  · have HC := frC_ne t hL
    have t0 : (fCode p B D x == 0) = false := by simpa using hL
    obtain ⟨L, HL⟩ : ∃ L, Hid (fCode p B D x = L) := ⟨_, Lib.hid rfl⟩
    rw [HL.out] at t0 HC
    clear hL
    go_enter Try.func64, Try.ntmps64
    go_wp2_with fail
    rw [← hW0]
    clear hW0
    refine (c_spec_l16Ask p B D x _ _ HR.out).mono ?_; rintro e w2 ⟨rfl, hb2⟩; rw [HL.out]
    go_wp2
    go_ret
    exact ⟨by rw [HC.out]; rfl, B0.tr hb2⟩
set_option maxHeartbeats 4000000 in
set_option maxRecDepth 100000 in
theorem c_impl_flightsCode (p : List Int) (B D x : Int) (v : Value) (w : World) (hr : RdI w v p) :
    Calls Try.prog 109 #[v, .agg #[.int .i64 B, .int .i64 D], .int .i64 x, .int .i64 0] w fun e w' => e = .returned (.int .i64 (fCode p B D x)) ∧ Below w.heap.size w w' := by
  obtain ⟨W0, hW0, k0, k1, B0⟩ := oneState w 54 B D
  have HR : Hid (RdI W0 v p) := Lib.hid (hr.below B0)
  have hz : inB 0 0 200 = true := by decide
  clear hr
  cases hv : validP p
  · have HC := fc1 (B := B) (D := D) (x := x) hv
    go_enter Try.func109, Try.ntmps109
    go_wp2_with fail
    rw [← hW0]
    clear hW0
    refine (c_impl_ValidPattern p _ _ HR.out).mono ?_; rintro e w2 ⟨rfl, hb2⟩; rw [hv]
    go_wp2
    go_ret
    exact ⟨by rw [HC.out]; rfl, B0.tr hb2⟩
  · cases ht : validT B D
    · have HC := fc2 (x := x) hv (Or.inl ht)
      go_enter Try.func109, Try.ntmps109
      go_wp2_with fail
      rw [← hW0]
      clear hW0
      refine (c_impl_ValidPattern p _ _ HR.out).mono ?_; rintro e w2 ⟨rfl, hb2⟩; rw [hv]
      have k0 := keepc hb2 k0
      have k1 := keepc hb2 k1
      go_wp2_with fail
      refine (c_impl_ValidTiming B D _).mono ?_; rintro e w3 ⟨rfl, hb3⟩; rw [ht]
      go_wp2
      go_ret
      exact ⟨by rw [HC.out]; rfl, (B0.tr hb2).tr hb3⟩
    · cases hx : inB x 0 16
      · have HC := fc2 (B := B) (D := D) hv (Or.inr hx)
        go_enter Try.func109, Try.ntmps109
        go_wp2_with fail
        rw [← hW0]
        clear hW0
        refine (c_impl_ValidPattern p _ _ HR.out).mono ?_; rintro e w2 ⟨rfl, hb2⟩; rw [hv]
        have k0 := keepc hb2 k0
        have k1 := keepc hb2 k1
        go_wp2_with fail
        refine (c_impl_ValidTiming B D _).mono ?_; rintro e w3 ⟨rfl, hb3⟩; rw [ht]
        go_wp2_with fail
        refine (c_impl_between x 0 16 _).mono ?_; rintro e w4 ⟨rfl, rfl⟩; rw [hx]
        go_wp2
        go_ret
        exact ⟨by rw [HC.out]; rfl, (B0.tr hb2).tr hb3⟩
      · obtain ⟨hB, hD⟩ := validT_bd ht
        have hbd := (validP_iff.1 hv).1.1
        have hDb : 1 ≤ D ∧ D ≤ 60 := by omega
        cases hf : fitsP p B D
        · have HC := fc6 hv ht hx (Or.inl hf)
          go_enter Try.func109, Try.ntmps109
          go_wp2_with fail
          rw [← hW0]
          clear hW0
          refine (c_impl_ValidPattern p _ _ HR.out).mono ?_; rintro e w2 ⟨rfl, hb2⟩; rw [hv]
          have k0 := keepc hb2 k0
          have k1 := keepc hb2 k1
          go_wp2_with fail
          refine (c_impl_ValidTiming B D _).mono ?_; rintro e w3 ⟨rfl, hb3⟩; rw [ht]
          have k0 := keepc hb3 k0
          have k1 := keepc hb3 k1
          go_wp2_with fail
          refine (c_impl_between x 0 16 _).mono ?_; rintro e w4 ⟨rfl, rfl⟩; rw [hx]
          go_wp2_with fail
          refine (c_impl_between 0 0 200 _).mono ?_; rintro e w4 ⟨rfl, rfl⟩; rw [hz]
          go_wp2_with fail
          have hR3 : RdI w3 v p := (HR.out.below hb2).below hb3
          refine wp_region_noPanic ?_
          refine wp_region_held_drew (S := fun w' => w'.cell? ⟨w.heap.size, 0, none⟩ = some (.int .i64 B) ∧ w'.cell? ⟨w.heap.size, 1, none⟩ = some (.int .i64 D)) (by kernel_rfl) ?_ (fun hHeld => ?_)
          · exact ⟨k0, k1⟩
          (refine wpAnyH_take (i := 0) (v := ?tv1) rfl (by kernel_rfl) (by kernel_rfl) (by kernel_rfl) (fun _ _ _ h => h) (Or.inl ⟨by rfl, ?thy1⟩) (by assumption) ?trest1; case thy1 => (intro w hSw; (try dsimp only at hSw); go_simp; (try with_reducible rfl)); (try simp only [Act.put, List.getElem_toArray, List.getElem_cons_zero, List.getElem_cons_succ, List.setIfInBounds_toArray, List.set_cons_zero, List.set_cons_succ])); (refine wpAnyH_take (i := 1) (v := ?tv2) rfl (by kernel_rfl) (by kernel_rfl) (by kernel_rfl) (fun _ _ _ h => h) (Or.inl ⟨by rfl, ?thy2⟩) (by assumption) ?trest2; case thy2 => (intro w hSw; (try dsimp only at hSw); go_simp; (try with_reducible rfl)); (try simp only [Act.put, List.getElem_toArray, List.getElem_cons_zero, List.getElem_cons_succ, List.setIfInBounds_toArray, List.set_cons_zero, List.set_cons_succ]))
          refine wpAnyH_ready (rs := [2]) (by kernel_rfl) (by simp) ?_; refine AllReadyH.cons (i := 2) rfl (fun K hK => ?_) AllReadyH.nil
          go_simp
          refine (c_impl_fits p B D _ _ (hR3.below ((Below.refl _ _).dr)) hbd hB hDb).mono ?_; rintro e w5 ⟨rfl, hb5⟩; rw [hf]
          have hb5' := below_drew hb5
          refine hK.out _ _ ⟨keepc hb5' k0, keepc hb5' k1⟩ (fun hHeld => ?_)
          clear hK K
          (try simp only [Act.put, List.getElem_toArray, List.getElem_cons_zero, List.getElem_cons_succ, List.setIfInBounds_toArray, List.set_cons_zero, List.set_cons_succ])
          (refine wpAnyH_take (i := 3) (v := ?tv3) rfl (by kernel_rfl) (by kernel_rfl) (by kernel_rfl) (fun _ _ _ h => h) (Or.inl ⟨by rfl, ?thy3⟩) (by assumption) ?trest3; case thy3 => (intro w hSw; (try dsimp only at hSw); go_simp; (try with_reducible rfl)); (try simp only [Act.put, List.getElem_toArray, List.getElem_cons_zero, List.getElem_cons_succ, List.setIfInBounds_toArray, List.set_cons_zero, List.set_cons_succ])); (refine wpAnyH_take (i := 4) (v := ?tv4) rfl (by kernel_rfl) (by kernel_rfl) (by kernel_rfl) (fun _ _ _ h => h) (Or.inl ⟨by rfl, ?thy4⟩) (by assumption) ?trest4; case thy4 => (intro w hSw; (try dsimp only at hSw); go_simp; (try with_reducible rfl)); (try simp only [Act.put, List.getElem_toArray, List.getElem_cons_zero, List.getElem_cons_succ, List.setIfInBounds_toArray, List.set_cons_zero, List.set_cons_succ]))
          (refine wpAnyH_take (i := 5) (v := undef) rfl (by kernel_rfl) (by kernel_rfl) (by kernel_rfl) (fun _ _ _ h => h) (Or.inr ⟨by kernel_rfl, rfl⟩) (by assumption) ?trest5); (try simp only [Act.put, List.getElem_toArray, List.getElem_cons_zero, List.getElem_cons_succ, List.setIfInBounds_toArray, List.set_cons_zero, List.set_cons_succ]); (refine wpAnyH_take (i := 6) (v := undef) rfl (by kernel_rfl) (by kernel_rfl) (by kernel_rfl) (fun _ _ _ h => h) (Or.inr ⟨by kernel_rfl, rfl⟩) (by assumption) ?trest6); (try simp only [Act.put, List.getElem_toArray, List.getElem_cons_zero, List.getElem_cons_succ, List.setIfInBounds_toArray, List.set_cons_zero, List.set_cons_succ]); (refine wpAnyH_take (i := 7) (v := undef) rfl (by kernel_rfl) (by kernel_rfl) (by kernel_rfl) (fun _ _ _ h => h) (Or.inr ⟨by kernel_rfl, rfl⟩) (by assumption) ?trest7); (try simp only [Act.put, List.getElem_toArray, List.getElem_cons_zero, List.getElem_cons_succ, List.setIfInBounds_toArray, List.set_cons_zero, List.set_cons_succ]); (refine wpAnyH_take (i := 8) (v := undef) rfl (by kernel_rfl) (by kernel_rfl) (by kernel_rfl) (fun _ _ _ h => h) (Or.inr ⟨by kernel_rfl, rfl⟩) (by assumption) ?trest8); (try simp only [Act.put, List.getElem_toArray, List.getElem_cons_zero, List.getElem_cons_succ, List.setIfInBounds_toArray, List.set_cons_zero, List.set_cons_succ]); (refine wpAnyH_take (i := 9) (v := undef) rfl (by kernel_rfl) (by kernel_rfl) (by kernel_rfl) (fun _ _ _ h => h) (Or.inr ⟨by kernel_rfl, rfl⟩) (by assumption) ?trest9); (try simp only [Act.put, List.getElem_toArray, List.getElem_cons_zero, List.getElem_cons_succ, List.setIfInBounds_toArray, List.set_cons_zero, List.set_cons_succ]); (refine wpAnyH_take (i := 10) (v := undef) rfl (by kernel_rfl) (by kernel_rfl) (by kernel_rfl) (fun _ _ _ h => h) (Or.inr ⟨by kernel_rfl, rfl⟩) (by assumption) ?trest10); (try simp only [Act.put, List.getElem_toArray, List.getElem_cons_zero, List.getElem_cons_succ, List.setIfInBounds_toArray, List.set_cons_zero, List.set_cons_succ]); (refine wpAnyH_take (i := 11) (v := undef) rfl (by kernel_rfl) (by kernel_rfl) (by kernel_rfl) (fun _ _ _ h => h) (Or.inr ⟨by kernel_rfl, rfl⟩) (by assumption) ?trest11); (try simp only [Act.put, List.getElem_toArray, List.getElem_cons_zero, List.getElem_cons_succ, List.setIfInBounds_toArray, List.set_cons_zero, List.set_cons_succ]); (refine wpAnyH_take (i := 12) (v := undef) rfl (by kernel_rfl) (by kernel_rfl) (by kernel_rfl) (fun _ _ _ h => h) (Or.inr ⟨by kernel_rfl, rfl⟩) (by assumption) ?trest12); (try simp only [Act.put, List.getElem_toArray, List.getElem_cons_zero, List.getElem_cons_succ, List.setIfInBounds_toArray, List.set_cons_zero, List.set_cons_succ]); (refine wpAnyH_take (i := 13) (v := undef) rfl (by kernel_rfl) (by kernel_rfl) (by kernel_rfl) (fun _ _ _ h => h) (Or.inr ⟨by kernel_rfl, rfl⟩) (by assumption) ?trest13); (try simp only [Act.put, List.getElem_toArray, List.getElem_cons_zero, List.getElem_cons_succ, List.setIfInBounds_toArray, List.set_cons_zero, List.set_cons_succ])
          (refine wpAnyH_take (i := 14) (v := ?tv14) rfl (by kernel_rfl) (by kernel_rfl) (by kernel_rfl) (fun _ _ _ h => h) (Or.inl ⟨by rfl, ?thy14⟩) (by assumption) ?trest14; case thy14 => (intro w hSw; (try dsimp only at hSw); go_simp; (try with_reducible rfl)); (try simp only [Act.put, List.getElem_toArray, List.getElem_cons_zero, List.getElem_cons_succ, List.setIfInBounds_toArray, List.set_cons_zero, List.set_cons_succ]))
          refine wpAnyH_done (by kernel_rfl) ?_ _
          refine NoPanic.normal ?_
          go_wp2
          go_ret
          exact ⟨by rw [HC.out]; rfl, ((B0.tr hb2).tr hb3).tr hb5'⟩
        · have hmx := mx_bd hbd (m := 0) (by omega)
          have hm := bt_bd (b := mxF 0 p) (M := 15) (by omega) hB
          have HC6 := Lib.hid (fun hh => fc6 hv ht hx (Or.inr hh))
          have HC0 := Lib.hid (fun hh => fc0 hv ht hx hf hh)
          obtain ⟨H, HH⟩ : ∃ H, Hid (mxF 0 p = H) := ⟨_, Lib.hid rfl⟩
          rw [HH.out] at hm hmx HC6 HC0
          obtain ⟨M, HM⟩ : ∃ M, Hid (H * B = M) := ⟨_, Lib.hid rfl⟩
          rw [HM.out] at hm HC6 HC0
          have hw1 : IntKind.i64.wrap (H * B) = M := by rw [HM.out]; exact IntWalk.i64_in _ (by omega)
          have hw2 : IntKind.i64.wrap (M - D) = M - D := IntWalk.i64_in _ (by omega)
          go_enter Try.func109, Try.ntmps109
          go_wp2_with fail
          rw [← hW0]
          clear hW0
          refine (c_impl_ValidPattern p _ _ HR.out).mono ?_; rintro e w2 ⟨rfl, hb2⟩; rw [hv]
          have k0 := keepc hb2 k0
          have k1 := keepc hb2 k1
          go_wp2_with fail
          refine (c_impl_ValidTiming B D _).mono ?_; rintro e w3 ⟨rfl, hb3⟩; rw [ht]
          have k0 := keepc hb3 k0
          have k1 := keepc hb3 k1
          go_wp2_with fail
          refine (c_impl_between x 0 16 _).mono ?_; rintro e w4 ⟨rfl, rfl⟩; rw [hx]
          go_wp2_with fail
          refine (c_impl_between 0 0 200 _).mono ?_; rintro e w4 ⟨rfl, rfl⟩; rw [hz]
          go_wp2_with fail
          have hR3 : RdI w3 v p := (HR.out.below hb2).below hb3
          refine wp_region_noPanic ?_
          refine wp_region_held_drew (S := fun w' => w'.cell? ⟨w.heap.size, 0, none⟩ = some (.int .i64 B) ∧ w'.cell? ⟨w.heap.size, 1, none⟩ = some (.int .i64 D)) (by kernel_rfl) ?_ (fun hHeld => ?_)
          · exact ⟨k0, k1⟩
          (refine wpAnyH_take (i := 0) (v := ?tv15) rfl (by kernel_rfl) (by kernel_rfl) (by kernel_rfl) (fun _ _ _ h => h) (Or.inl ⟨by rfl, ?thy15⟩) (by assumption) ?trest15; case thy15 => (intro w hSw; (try dsimp only at hSw); go_simp; (try with_reducible rfl)); (try simp only [Act.put, List.getElem_toArray, List.getElem_cons_zero, List.getElem_cons_succ, List.setIfInBounds_toArray, List.set_cons_zero, List.set_cons_succ])); (refine wpAnyH_take (i := 1) (v := ?tv16) rfl (by kernel_rfl) (by kernel_rfl) (by kernel_rfl) (fun _ _ _ h => h) (Or.inl ⟨by rfl, ?thy16⟩) (by assumption) ?trest16; case thy16 => (intro w hSw; (try dsimp only at hSw); go_simp; (try with_reducible rfl)); (try simp only [Act.put, List.getElem_toArray, List.getElem_cons_zero, List.getElem_cons_succ, List.setIfInBounds_toArray, List.set_cons_zero, List.set_cons_succ]))
          refine wpAnyH_ready (rs := [2]) (by kernel_rfl) (by simp) ?_; refine AllReadyH.cons (i := 2) rfl (fun K hK => ?_) AllReadyH.nil
          go_simp
          refine (c_impl_fits p B D _ _ (hR3.below ((Below.refl _ _).dr)) hbd hB hDb).mono ?_; rintro e w5 ⟨rfl, hb5⟩; rw [hf]
          have hb5' := below_drew hb5
          have p0 := keepc hb5' k0
          have p1 := keepc hb5' k1
          refine hK.out _ _ ⟨p0, p1⟩ (fun hHeld => ?_)
          clear hK K
          (try simp only [Act.put, List.getElem_toArray, List.getElem_cons_zero, List.getElem_cons_succ, List.setIfInBounds_toArray, List.set_cons_zero, List.set_cons_succ])
          (refine wpAnyH_take (i := 3) (v := ?tv17) rfl (by kernel_rfl) (by kernel_rfl) (by kernel_rfl) (fun _ _ _ h => h) (Or.inl ⟨by rfl, ?thy17⟩) (by assumption) ?trest17; case thy17 => (intro w hSw; (try dsimp only at hSw); go_simp; (try with_reducible rfl)); (try simp only [Act.put, List.getElem_toArray, List.getElem_cons_zero, List.getElem_cons_succ, List.setIfInBounds_toArray, List.set_cons_zero, List.set_cons_succ])); (refine wpAnyH_take (i := 4) (v := ?tv18) rfl (by kernel_rfl) (by kernel_rfl) (by kernel_rfl) (fun _ _ _ h => h) (Or.inl ⟨by rfl, ?thy18⟩) (by assumption) ?trest18; case thy18 => (intro w hSw; (try dsimp only at hSw); go_simp; (try with_reducible rfl)); (try simp only [Act.put, List.getElem_toArray, List.getElem_cons_zero, List.getElem_cons_succ, List.setIfInBounds_toArray, List.set_cons_zero, List.set_cons_succ]))
          (refine wpAnyH_take (i := 5) (v := ?tv19) rfl (by kernel_rfl) (by kernel_rfl) (by kernel_rfl) (fun _ _ _ h => h) (Or.inl ⟨by kernel_rfl, ?thy19⟩) (by assumption) ?trest19; case thy19 => (intro w hSw; (try dsimp only at hSw); go_simp; (try with_reducible rfl)); (try simp only [Act.put, List.getElem_toArray, List.getElem_cons_zero, List.getElem_cons_succ, List.setIfInBounds_toArray, List.set_cons_zero, List.set_cons_succ])); (refine wpAnyH_take (i := 7) (v := ?tv20) rfl (by kernel_rfl) (by kernel_rfl) (by kernel_rfl) (fun _ _ _ h => h) (Or.inl ⟨by kernel_rfl, ?thy20⟩) (by assumption) ?trest20; case thy20 => (intro w hSw; (try dsimp only at hSw); go_simp; (try with_reducible rfl)); (try simp only [Act.put, List.getElem_toArray, List.getElem_cons_zero, List.getElem_cons_succ, List.setIfInBounds_toArray, List.set_cons_zero, List.set_cons_succ])); (refine wpAnyH_take (i := 8) (v := ?tv21) rfl (by kernel_rfl) (by kernel_rfl) (by kernel_rfl) (fun _ _ _ h => h) (Or.inl ⟨by kernel_rfl, ?thy21⟩) (by assumption) ?trest21; case thy21 => (intro w hSw; (try dsimp only at hSw); go_simp; (try with_reducible rfl)); (try simp only [Act.put, List.getElem_toArray, List.getElem_cons_zero, List.getElem_cons_succ, List.setIfInBounds_toArray, List.set_cons_zero, List.set_cons_succ])); (refine wpAnyH_take (i := 10) (v := ?tv22) rfl (by kernel_rfl) (by kernel_rfl) (by kernel_rfl) (fun _ _ _ h => h) (Or.inl ⟨by kernel_rfl, ?thy22⟩) (by assumption) ?trest22; case thy22 => (intro w hSw; (try dsimp only at hSw); go_simp; (try with_reducible rfl)); (try simp only [Act.put, List.getElem_toArray, List.getElem_cons_zero, List.getElem_cons_succ, List.setIfInBounds_toArray, List.set_cons_zero, List.set_cons_succ])); (refine wpAnyH_take (i := 11) (v := ?tv23) rfl (by kernel_rfl) (by kernel_rfl) (by kernel_rfl) (fun _ _ _ h => h) (Or.inl ⟨by kernel_rfl, ?thy23⟩) (by assumption) ?trest23; case thy23 => (intro w hSw; (try dsimp only at hSw); go_simp; (try with_reducible rfl)); (try simp only [Act.put, List.getElem_toArray, List.getElem_cons_zero, List.getElem_cons_succ, List.setIfInBounds_toArray, List.set_cons_zero, List.set_cons_succ]))
          refine wpAnyH_ready (rs := [6]) (by kernel_rfl) (by simp) ?_; refine AllReadyH.cons (i := 6) rfl (fun K hK => ?_) AllReadyH.nil
          go_simp
          refine (c_impl_highest p _ _ (hR3.below hb5')).mono ?_; rintro e w6 ⟨rfl, rfl⟩; rw [HH.out]
          refine hK.out _ _ ⟨p0, p1⟩ (fun hHeld => ?_)
          clear hK K
          (try simp only [Act.put, List.getElem_toArray, List.getElem_cons_zero, List.getElem_cons_succ, List.setIfInBounds_toArray, List.set_cons_zero, List.set_cons_succ])
          by_cases hh : 40 < M - D
          · have HC := Lib.hid (HC6.out hh)
            (refine wpAnyH_take (i := 9) (v := ?tv24) rfl (by kernel_rfl) (by kernel_rfl) (by kernel_rfl) (fun _ _ _ h => h) (Or.inl ⟨by kernel_rfl, ?thy24⟩) (by assumption) ?trest24; case thy24 => (intro w hSw; (try dsimp only at hSw); go_simp; (try with_reducible rfl)); (try simp only [Act.put, List.getElem_toArray, List.getElem_cons_zero, List.getElem_cons_succ, List.setIfInBounds_toArray, List.set_cons_zero, List.set_cons_succ])); (refine wpAnyH_take (i := 12) (v := ?tv25) rfl (by kernel_rfl) (by kernel_rfl) (by kernel_rfl) (fun _ _ _ h => h) (Or.inl ⟨by kernel_rfl, ?thy25⟩) (by assumption) ?trest25; case thy25 => (intro w hSw; (try dsimp only at hSw); go_simp; (try with_reducible rfl)); (try simp only [Act.put, List.getElem_toArray, List.getElem_cons_zero, List.getElem_cons_succ, List.setIfInBounds_toArray, List.set_cons_zero, List.set_cons_succ])); (refine wpAnyH_take (i := 13) (v := ?tv26) rfl (by kernel_rfl) (by kernel_rfl) (by kernel_rfl) (fun _ _ _ h => h) (Or.inl ⟨by kernel_rfl, ?thy26⟩) (by assumption) ?trest26; case thy26 => (intro w hSw; (try dsimp only at hSw); go_simp; (try with_reducible rfl)); (try simp only [Act.put, List.getElem_toArray, List.getElem_cons_zero, List.getElem_cons_succ, List.setIfInBounds_toArray, List.set_cons_zero, List.set_cons_succ]))
            (refine wpAnyH_take (i := 14) (v := ?tv27) rfl (by kernel_rfl) (by kernel_rfl) (by kernel_rfl) (fun _ _ _ h => h) (Or.inl ⟨by rfl, ?thy27⟩) (by assumption) ?trest27; case thy27 => (intro w hSw; (try dsimp only at hSw); go_simp; (try with_reducible rfl)); (try simp only [Act.put, List.getElem_toArray, List.getElem_cons_zero, List.getElem_cons_succ, List.setIfInBounds_toArray, List.set_cons_zero, List.set_cons_succ]))
            refine wpAnyH_done (by kernel_rfl) ?_ _
            refine NoPanic.normal ?_
            go_wp2
            go_ret
            exact ⟨by rw [HC.out.out]; rfl, ((B0.tr hb2).tr hb3).tr hb5'⟩
          · have HC := Lib.hid (HC0.out (by omega))
            (refine wpAnyH_take (i := 9) (v := ?tv28) rfl (by kernel_rfl) (by kernel_rfl) (by kernel_rfl) (fun _ _ _ h => h) (Or.inl ⟨by kernel_rfl, ?thy28⟩) (by assumption) ?trest28; case thy28 => (intro w hSw; (try dsimp only at hSw); go_simp; (try with_reducible rfl)); (try simp only [Act.put, List.getElem_toArray, List.getElem_cons_zero, List.getElem_cons_succ, List.setIfInBounds_toArray, List.set_cons_zero, List.set_cons_succ])); (refine wpAnyH_take (i := 12) (v := ?tv29) rfl (by kernel_rfl) (by kernel_rfl) (by kernel_rfl) (fun _ _ _ h => h) (Or.inl ⟨by kernel_rfl, ?thy29⟩) (by assumption) ?trest29; case thy29 => (intro w hSw; (try dsimp only at hSw); go_simp; (try with_reducible rfl)); (try simp only [Act.put, List.getElem_toArray, List.getElem_cons_zero, List.getElem_cons_succ, List.setIfInBounds_toArray, List.set_cons_zero, List.set_cons_succ])); (refine wpAnyH_take (i := 13) (v := ?tv30) rfl (by kernel_rfl) (by kernel_rfl) (by kernel_rfl) (fun _ _ _ h => h) (Or.inl ⟨by kernel_rfl, ?thy30⟩) (by assumption) ?trest30; case thy30 => (intro w hSw; (try dsimp only at hSw); go_simp; (try with_reducible rfl)); (try simp only [Act.put, List.getElem_toArray, List.getElem_cons_zero, List.getElem_cons_succ, List.setIfInBounds_toArray, List.set_cons_zero, List.set_cons_succ]))
            (refine wpAnyH_take (i := 14) (v := ?tv31) rfl (by kernel_rfl) (by kernel_rfl) (by kernel_rfl) (fun _ _ _ h => h) (Or.inl ⟨by rfl, ?thy31⟩) (by assumption) ?trest31; case thy31 => (intro w hSw; (try dsimp only at hSw); go_simp; (try with_reducible rfl)); (try simp only [Act.put, List.getElem_toArray, List.getElem_cons_zero, List.getElem_cons_succ, List.setIfInBounds_toArray, List.set_cons_zero, List.set_cons_succ]))
            refine wpAnyH_done (by kernel_rfl) ?_ _
            refine NoPanic.normal ?_
            go_wp2
            go_ret
            exact ⟨by rw [HC.out.out]; rfl, ((B0.tr hb2).tr hb3).tr hb5'⟩
set_option maxHeartbeats 2000000 in
theorem c_impl_frameCode (p : List Int) (B D x t : Int) (v : Value) (w : World) (hr : RdI w v p) :
    Calls Try.prog 68 #[v, .agg #[.int .i64 B, .int .i64 D], .int .i64 x, .int .i64 t] w fun e w' => e = .returned (.int .i64 (frCode p B D x t)) ∧ Below w.heap.size w w' := by
  obtain ⟨W0, hW0, k0, k1, B0⟩ := oneState w 54 B D
  have HR : Hid (RdI W0 v p) := Lib.hid (hr.below B0)
  clear hr
  by_cases hL : fCode p B D x = 0
  · cases hi : inB t 0 3000
    · have HC := frC_no hL hi
      have HL := Lib.hid hL
      clear hL
      go_enter Try.func68, Try.ntmps68
      go_wp2_with fail
      rw [← hW0]
      clear hW0
      refine (c_impl_flightsCode p B D x _ _ HR.out).mono ?_; rintro e w2 ⟨rfl, hb2⟩; rw [HL.out]
      go_wp2_with fail
      refine (c_impl_between t 0 3000 _).mono ?_; rintro e w3 ⟨rfl, rfl⟩; rw [hi]
      go_wp2
      go_ret
      exact ⟨by rw [HC.out]; rfl, B0.tr hb2⟩
    · have HC := frC_ok hL hi
      have HL := Lib.hid hL
      clear hL
      go_enter Try.func68, Try.ntmps68
      go_wp2_with fail
      rw [← hW0]
      clear hW0
      refine (c_impl_flightsCode p B D x _ _ HR.out).mono ?_; rintro e w2 ⟨rfl, hb2⟩; rw [HL.out]
      go_wp2_with fail
      refine (c_impl_between t 0 3000 _).mono ?_; rintro e w3 ⟨rfl, rfl⟩; rw [hi]
      go_wp2
      go_ret
      exact ⟨by rw [HC.out]; rfl, B0.tr hb2⟩
  · have HC := frC_ne t hL
    have t0 : (fCode p B D x == 0) = false := by simpa using hL
    obtain ⟨L, HL⟩ : ∃ L, Hid (fCode p B D x = L) := ⟨_, Lib.hid rfl⟩
    rw [HL.out] at t0 HC
    clear hL
    go_enter Try.func68, Try.ntmps68
    go_wp2_with fail
    rw [← hW0]
    clear hW0
    refine (c_impl_flightsCode p B D x _ _ HR.out).mono ?_; rintro e w2 ⟨rfl, hb2⟩; rw [HL.out]
    go_wp2
    go_ret
    exact ⟨by rw [HC.out]; rfl, B0.tr hb2⟩
end Go.Proofs.Ytddfdppoclnpcaa
