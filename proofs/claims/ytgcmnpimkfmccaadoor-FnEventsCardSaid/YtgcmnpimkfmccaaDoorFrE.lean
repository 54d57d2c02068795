/- Contracts: the order of props. -/
import Derived.Test.YtgcmnpimkfmccaaDoorFrA
namespace Go.Proofs.YtgcmnpimkfmccaaDoor
open Go.ChangeShapes Go.WideShapes Go.ChangeAt Go.RowKit
set_option linter.unusedVariables false
set_option linter.unusedSimpArgs false
theorem cntP_lin (p : List Int) : ∀ k : Nat, cntP p k ≤ k
  | 0 => by rw [cntP_zero]; exact Int.le_refl _
  | k + 1 => by have := cntP_lin p k; rw [cntP_succ]; split <;> omega
theorem ordL_none {p : List Int} {k : Nat} (h : atP p k = 0) : ordL p (k + 1) = ordL p k ++ [-1] := by simp only [ordL]; rw [if_pos h]
theorem ordL_new {p : List Int} {k : Nat} (h : atP p k ≠ 0) (hf : frP p k < 0) : ordL p (k + 1) = ordL p k ++ [cntP p k] := by simp only [ordL]; rw [if_neg h, if_pos hf]
theorem ordL_old {p : List Int} {k : Nat} (h : atP p k ≠ 0) (hf : ¬ frP p k < 0) : ordL p (k + 1) = ordL p k ++ [(ordL p k).getD (frP p k).toNat 0] := by simp only [ordL]; rw [if_neg h, if_neg hf]
theorem cnt_new {p : List Int} {k : Nat} (hf : frP p k < 0) : cntP p (k + 1) = cntP p k + 1 := by rw [cntP_succ, if_pos hf]
theorem cnt_old {p : List Int} {k : Nat} (hf : ¬ frP p k < 0) : cntP p (k + 1) = cntP p k := by rw [cntP_succ, if_neg hf, Int.add_zero]
set_option maxHeartbeats 4000000 in
set_option maxRecDepth 100000 in
theorem c_impl_propsAt (p : List Int) (n : Nat) (v : Value) (w : World) (hr : RdI w v p) (hv : validP p = true) (hn : n ≤ 3200) :
    Calls Tryd.prog 18 #[v, .int .i64 n] w fun e w' => ∃ u, e = .returned u ∧ OwnI1 w.heap.size w' u (ordL p n) ∧ Below w.heap.size w w' := by
  have HR := Lib.hid hr
  have HV := Lib.hid hv
  have HLN := Lib.hid (validP_iff.1 hv).1.2
  clear hr hv
  go_enter Tryd.func18, Tryd.ntmps18
  go_wp2
  go_loopw [5, 6, 11] (fun u c i wr => ∃ k : Nat, k ≤ n ∧ i = .int .i64 k ∧ c = .int .i64 (cntP p k) ∧ OwnI1 w.heap.size wr u (ordL p k) ∧ Below w.heap.size w wr) (fun _ _ i _ => n - (intOf i).toNat)
  case atStart => exact ⟨0, by omega, rfl, rfl, OwnI.made rfl (by simp) (by simp), by (repeat (first | (with_reducible assumption) | (with_reducible exact Below.refl _ _) | (with_reducible refine Below.setCell ?_ (by first | (simp; done) | (simp; omega)) _) | (with_reducible refine Below.al ?_ _) | (with_reducible refine Below.dr ?_) | (with_reducible refine Below.drN ?_ _) | (with_reducible refine Below.tr ?_ (by with_reducible assumption))))⟩
  case round =>
    obtain ⟨k, hk, rfl, rfl, hown, B0⟩ := hrel
    have hs0 := B0.size
    by_cases hlt : k < n
    · have hc1 := cntP_lin p k
      have hc0 := cntP_nonneg p k
      have hll : (ordL p k).length < 1000000000 := by rw [ordL_len]; omega
      have hat := at_bd HV.out k
      have hfb := fr_le HV.out k
      by_cases ha : atP p k = 0
      · have HO := Lib.hid (ordL_none ha)
        have hf : ¬ frP p k < 0 := by have := (fr_self HV.out k).1 ha; omega
        have HC := Lib.hid (cnt_old hf)
        obtain ⟨f, Hf⟩ : ∃ f, Hid ((k : Int) - p.getD (liN p ((k : Int) % (p.length : Int))) 0 = f) := ⟨_, Lib.hid rfl⟩
        have HA := Lib.hid ha
        clear ha hf
        go_wp2_with fail
        refine (c_impl_landsFrom p k _ _ (HR.out.below B0) HV.out (by omega)).mono ?_; rintro e w2 ⟨rfl, hb2⟩
        rw [Hf.out]
        go_wp2_with fail
        refine (c_impl_throwAt p k _ _ (HR.out.below (B0.tr hb2)) HLN.out (by omega)).mono ?_; rintro e w3 ⟨rfl, rfl⟩
        rw [HA.out]
        go_wp2_with (at_builtin; refine push_int rfl _ _ _ _ rfl Tryd.underlying24 infoI w.heap.size _ _ _ _ rfl rfl (by exact hown.below hb2) hll (by have := hb2.size; omega) ?_; intro v' w4 hown2 hb4 hs4)
        go_roundw
        case rel => exact ⟨k + 1, by omega, by go_num, by rw [HC.out], by rw [HO.out]; exact hown2, hb4 _ (B0.tr hb2)⟩
        case measure => simp [intOf]; omega
      · have ta : (atP p k == 0) = false := by simpa using ha
        have HF : Hid ((k : Int) - p.getD (liN p ((k : Int) % (p.length : Int))) 0 = frP p k) := rfl
        by_cases hf : frP p k < 0
        · have HO := Lib.hid (ordL_new ha hf)
          have HC := Lib.hid (cnt_new hf)
          clear ha
          generalize cntP p k = c at *
          generalize frP p k = f at *
          go_wp2_with fail
          refine (c_impl_landsFrom p k _ _ (HR.out.below B0) HV.out (by omega)).mono ?_; rintro e w2 ⟨rfl, hb2⟩
          rw [HF.out]
          go_wp2_with fail
          refine (c_impl_throwAt p k _ _ (HR.out.below (B0.tr hb2)) HLN.out (by omega)).mono ?_; rintro e w3 ⟨rfl, rfl⟩
          go_wp2_with (at_builtin; refine push_int rfl _ _ _ _ rfl Tryd.underlying24 infoI w.heap.size _ _ _ _ rfl rfl (by exact hown.below hb2) hll (by have := hb2.size; omega) ?_; intro v' w4 hown2 hb4 hs4)
          go_roundw
          case rel => exact ⟨k + 1, by omega, by go_num, by rw [HC.out], by rw [HO.out]; exact hown2, hb4 _ (B0.tr hb2)⟩
          case measure => simp [intOf]; omega
        · have HO := Lib.hid (ordL_old ha hf)
          have HC := Lib.hid (cnt_old hf)
          have hfl := fr_lt HV.out ha
          obtain ⟨F, hF⟩ : ∃ F : Nat, frP p k = (F : Int) := ⟨(frP p k).toNat, by omega⟩
          rw [hF] at HF HO hfl
          rw [show ((F : Int)).toNat = F from rfl] at HO
          have hFl : F < (ordL p k).length := by rw [ordL_len]; omega
          obtain ⟨au, cu, hu, hul, huc⟩ := hown.rd
          obtain ⟨b1, o1, rfl, hx⟩ := huc F hFl
          subst hu
          obtain ⟨y, Hy⟩ : ∃ y, Hid ((ordL p k).getD F 0 = y) := ⟨_, Lib.hid rfl⟩
          rw [Hy.out] at hx HO
          clear ha hf huc hF
          have hF0 : (0 : Int) ≤ (F : Int) := by omega
          have hF1 : ((F : Nat) : Int) < (((ordL p k).length : Nat) : Int) := by omega
          go_wp2_with fail
          refine (c_impl_landsFrom p k _ _ (HR.out.below B0) HV.out (by omega)).mono ?_; rintro e w2 ⟨rfl, hb2⟩
          rw [HF.out]
          go_wp2_with fail
          refine (c_impl_throwAt p k _ _ (HR.out.below (B0.tr hb2)) HLN.out (by omega)).mono ?_; rintro e w3 ⟨rfl, rfl⟩
          have hx2 := keepc hb2 hx
          go_wp2_with (at_builtin; refine push_int rfl _ _ _ _ rfl Tryd.underlying24 infoI w.heap.size _ _ _ _ rfl rfl (by exact hown.below hb2) hll (by have := hb2.size; omega) ?_; intro v' w4 hown2 hb4 hs4)
          go_roundw
          case rel => exact ⟨k + 1, by omega, by go_num, by rw [HC.out], by rw [HO.out]; exact hown2, hb4 _ (B0.tr hb2)⟩
          case measure => simp [intOf]; omega
    · obtain rfl : k = n := by omega
      go_wp2
      go_ret
      exact ⟨_, rfl, hown, B0⟩
set_option maxHeartbeats 4000000 in
set_option maxRecDepth 100000 in
theorem c_spec_l13Order (p : List Int) (n : Nat) (v : Value) (w : World) (hr : RdI w v p) (hv : validP p = true) (hn : n ≤ 3200) :
    Calls Tryd.prog 24 #[v, .int .i64 n] w fun e w' => ∃ u, e = .returned u ∧ OwnI1 w.heap.size w' u (ordL p n) ∧ Below w.heap.size w w' := by
  have HR := Lib.hid hr
  have HV := Lib.hid hv
  have HLN := Lib.hid (validP_iff.1 hv).1.2
  clear hr hv
  go_enter Tryd.func24, Tryd.ntmps24
  go_wp2
  go_loopw [5, 6, 7] (fun u c i wr => ∃ k : Nat, k ≤ n ∧ i = .int .i64 k ∧ c = .int .i64 (cntP p k) ∧ OwnI1 w.heap.size wr u (ordL p k) ∧ Below w.heap.size w wr) (fun _ _ i _ => n - (intOf i).toNat)
  case atStart => exact ⟨0, by omega, rfl, rfl, OwnI.made rfl (by simp) (by simp), by (repeat (first | (with_reducible assumption) | (with_reducible exact Below.refl _ _) | (with_reducible refine Below.setCell ?_ (by first | (simp; done) | (simp; omega)) _) | (with_reducible refine Below.al ?_ _) | (with_reducible refine Below.dr ?_) | (with_reducible refine Below.drN ?_ _) | (with_reducible refine Below.tr ?_ (by with_reducible assumption))))⟩
  case round =>
    obtain ⟨k, hk, rfl, rfl, hown, B0⟩ := hrel
    have hs0 := B0.size
    by_cases hlt : k < n
    · have hc1 := cntP_lin p k
      have hc0 := cntP_nonneg p k
      have hll : (ordL p k).length < 1000000000 := by rw [ordL_len]; omega
      have hat := at_bd HV.out k
      have hfb := fr_le HV.out k
      by_cases ha : atP p k = 0
      · have HO := Lib.hid (ordL_none ha)
        have hf : ¬ frP p k < 0 := by have := (fr_self HV.out k).1 ha; omega
        have HC := Lib.hid (cnt_old hf)
        have HA : Hid (p.getD ((k : Int) % (p.length : Int)).toNat 0 = 0) := ha
        clear ha hf
        go_wp2_with fail
        refine (c_spec_l02At p k _ _ (HR.out.below B0) HLN.out (by omega)).mono ?_; rintro e w3 ⟨rfl, rfl⟩
        rw [HA.out]
        go_wp2_with (at_builtin; refine push_int rfl _ _ _ _ rfl Tryd.underlying24 infoI w.heap.size _ _ _ _ rfl rfl (by exact hown) hll hs0 ?_; intro v' w4 hown2 hb4 hs4)
        go_roundw
        case rel => exact ⟨k + 1, by omega, by go_num, by rw [HC.out], by rw [HO.out]; exact hown2, hb4 _ B0⟩
        case measure => simp [intOf]; omega
      · have ta : (p.getD ((k : Int) % (p.length : Int)).toNat 0 == 0) = false := beq_eq_false_iff_ne.2 ha
        have HF : Hid ((k : Int) - p.getD (liN p ((k : Int) % (p.length : Int))) 0 = frP p k) := rfl
        have hfl := fr_lt HV.out ha
        obtain ⟨A, HA⟩ : ∃ A, Hid (p.getD ((k : Int) % (p.length : Int)).toNat 0 = A) := ⟨_, Lib.hid rfl⟩
        rw [HA.out] at ta
        by_cases hf : frP p k < 0
        · have HO := Lib.hid (ordL_new ha hf)
          have HC := Lib.hid (cnt_new hf)
          clear ha
          generalize cntP p k = c at *
          generalize frP p k = f at *
          go_wp2_with fail
          refine (c_spec_l02At p k _ _ (HR.out.below B0) HLN.out (by omega)).mono ?_; rintro e w3 ⟨rfl, rfl⟩
          rw [HA.out]
          go_wp2_with fail
          refine (c_spec_l02From p k _ _ (HR.out.below B0) HV.out (by omega)).mono ?_; rintro e w2 ⟨rfl, hs2, hb2⟩
          rw [HF.out]
          go_wp2_with (at_builtin; refine push_int rfl _ _ _ _ rfl Tryd.underlying24 infoI w.heap.size _ _ _ _ rfl rfl (by exact hown.below hb2) hll (by have := hb2.size; omega) ?_; intro v' w4 hown2 hb4 hs4)
          go_roundw
          case rel => exact ⟨k + 1, by omega, by go_num, by rw [HC.out], by rw [HO.out]; exact hown2, hb4 _ (B0.tr hb2)⟩
          case measure => simp [intOf]; omega
        · have HO := Lib.hid (ordL_old ha hf)
          have HC := Lib.hid (cnt_old hf)
          obtain ⟨F, hF⟩ : ∃ F : Nat, frP p k = (F : Int) := ⟨(frP p k).toNat, by omega⟩
          rw [hF] at HF HO hfl
          rw [show ((F : Int)).toNat = F from rfl] at HO
          have hFl : F < (ordL p k).length := by rw [ordL_len]; omega
          obtain ⟨au, cu, hu, hul, huc⟩ := hown.rd
          obtain ⟨b1, o1, rfl, hx⟩ := huc F hFl
          subst hu
          obtain ⟨y, Hy⟩ : ∃ y, Hid ((ordL p k).getD F 0 = y) := ⟨_, Lib.hid rfl⟩
          rw [Hy.out] at hx HO
          clear ha hf huc hF
          have hF0 : (0 : Int) ≤ (F : Int) := by omega
          have hF1 : ((F : Nat) : Int) < (((ordL p k).length : Nat) : Int) := by omega
          go_wp2_with fail
          refine (c_spec_l02At p k _ _ (HR.out.below B0) HLN.out (by omega)).mono ?_; rintro e w3 ⟨rfl, rfl⟩
          rw [HA.out]
          go_wp2_with fail
          refine (c_spec_l02From p k _ _ (HR.out.below B0) HV.out (by omega)).mono ?_; rintro e w2 ⟨rfl, hs2, hb2⟩
          rw [HF.out]
          have hx2 := keepc hb2 hx
          go_wp2_with (at_builtin; refine push_int rfl _ _ _ _ rfl Tryd.underlying24 infoI w.heap.size _ _ _ _ rfl rfl (by exact hown.below hb2) hll (by have := hb2.size; omega) ?_; intro v' w4 hown2 hb4 hs4)
          go_roundw
          case rel => exact ⟨k + 1, by omega, by go_num, by rw [HC.out], by rw [HO.out]; exact hown2, hb4 _ (B0.tr hb2)⟩
          case measure => simp [intOf]; omega
    · obtain rfl : k = n := by omega
      go_wp2
      go_ret
      exact ⟨_, rfl, hown, B0⟩
end Go.Proofs.YtgcmnpimkfmccaaDoor
