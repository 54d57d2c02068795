/- Contracts: DotOf. -/
import Derived.Test.YtddfdppoclnpcaaFrH
import Derived.Test.YtddfdppoclnpcaaFrL
namespace Go.Proofs.Ytddfdppoclnpcaa
open Go.ChangeShapes Go.WideShapes Go.ChangeAt Go.RowKit
set_option linter.unusedVariables false
set_option linter.unusedSimpArgs false
theorem frCode_ok {p : List Int} {B D x t : Int} (h : frCode p B D x t = 0) : validP p = true ∧ validT B D = true ∧ (0 ≤ x ∧ x ≤ 16) ∧ (0 ≤ t ∧ t ≤ 3000) := by
  unfold frCode at h
  split at h
  · rename_i h0; exact absurd h h0
  · rename_i h0
    have h1 : fCode p B D x = 0 := by omega
    split at h
    · omega
    · rename_i h2
      unfold fCode at h1
      split at h1
      · omega
      · rename_i h3
        split at h1
        · omega
        · rename_i h4
          refine ⟨by simpa using h3, ?_, ?_, inB_iff.1 (by simpa using h2)⟩
          · cases h5 : validT B D
            · exact absurd (Or.inl h5) h4
            · rfl
          · apply inB_iff.1
            cases h5 : inB x 0 16
            · exact absurd (Or.inr h5) h4
            · rfl
theorem frCode_bd (p : List Int) (B D x t : Int) : 0 ≤ frCode p B D x t ∧ frCode p B D x t ≤ 6 := by
  have h : 0 ≤ fCode p B D x ∧ fCode p B D x ≤ 6 := by
    unfold fCode
    split
    · omega
    · split
      · omega
      · split <;> omega
  unfold frCode
  split
  · exact h
  · split <;> omega
def zDot : Dot5 := (0, 0, 0, 0, 0)
def dotOfP (p : List Int) (B D x q t : Int) : Dot5 := if frCode p B D x t ≠ 0 then zDot else if inB q 0 (propsP p - 1) = false then zDot else (dotsF p B D x t).getD q.toNat zDot
def dotOfC (p : List Int) (B D x q t : Int) : Int := if frCode p B D x t ≠ 0 then frCode p B D x t else if inB q 0 (propsP p - 1) = false then 2 else 0
theorem fldF (t : Int) (a : Option Addr) (n c : Nat) (w : World) : (Instr.field 62 (.agg #[.int .i64 t, .slice a n c]) 1).run Try.prog w = .ok (.slice a n c) w := by kernel_rfl
set_option maxHeartbeats 4000000 in
set_option maxRecDepth 100000 in
theorem c_impl_DotOf (p : List Int) (B D x q t : Int) (v : Value) (w : World) (hr : RdI w v p) :
    Calls Try.prog 30 #[v, .agg #[.int .i64 B, .int .i64 D], .int .i64 x, .int .i64 q, .int .i64 t] w fun e w' => e = .returned (.tuple #[aggDot (dotOfP p B D x q t), .int .i64 (dotOfC p B D x q t)]) ∧ Below w.heap.size w w' := by
  obtain ⟨W0, hW0, k0, k1, kf, ff, B0⟩ := boxTD w B D
  have HR : Hid (RdI W0 v p) := Lib.hid (hr.below B0)
  clear hr
  by_cases hL : frCode p B D x t = 0
  · obtain ⟨hv, hvt, hx, ht⟩ := frCode_ok hL
    obtain ⟨hB, hD⟩ := validT_bd hvt
    have hD2 : 1 ≤ D ∧ D ≤ 60 := by omega
    have hp0 := props_nonneg hv
    have hp1 := props_le hv
    have HV := Lib.hid hv
    have HL := Lib.hid hL
    cases hin : inB q 0 (propsP p - 1)
    · have HD : Hid (dotOfP p B D x q t = zDot) := by unfold Hid dotOfP; rw [if_neg (by simp [HL.out]), if_pos hin]
      have HC : Hid (dotOfC p B D x q t = 2) := by unfold Hid dotOfC; rw [if_neg (by simp [HL.out]), if_pos hin]
      obtain ⟨P, HP⟩ : ∃ P, Hid (propsP p = P) := ⟨_, Lib.hid rfl⟩
      rw [HP.out] at hin hp0 hp1
      clear hL hv hvt
      go_enter Try.func30, Try.ntmps30
      go_wp2_with fail
      rw [← hW0]
      clear hW0
      refine (c_impl_frameCode p B D x t _ _ HR.out).mono ?_; rintro e w2 ⟨rfl, hb2⟩; rw [HL.out]
      go_wp2_with fail
      refine (c_impl_propsOf p _ _ (HR.out.below hb2) HV.out).mono ?_; rintro e w3 ⟨rfl, rfl⟩; rw [HP.out]
      go_wp2_with fail
      refine (c_impl_between q 0 (P - 1) _).mono ?_; rintro e w3 ⟨rfl, rfl⟩; rw [hin]
      have z0 := keepc hb2 (kf 0 (by omega))
      have z1 := keepc hb2 (kf 1 (by omega))
      have z2 := keepc hb2 (kf 2 (by omega))
      have z3 := keepc hb2 (kf 3 (by omega))
      have z4 := keepc hb2 (kf 4 (by omega))
      have y0 := frozenc hb2 (kf 0 (by omega)) (ff 0 (by omega))
      have y1 := frozenc hb2 (kf 1 (by omega)) (ff 1 (by omega))
      have y2 := frozenc hb2 (kf 2 (by omega)) (ff 2 (by omega))
      have y3 := frozenc hb2 (kf 3 (by omega)) (ff 3 (by omega))
      have y4 := frozenc hb2 (kf 4 (by omega)) (ff 4 (by omega))
      obtain ⟨W9, hW9, X0', X1', X2', X3', X4', -, -⟩ := set5 w2 (w.heap.size + 1) (.int .i64 0) (.int .i64 0) (.int .i64 0) (.int .i64 0) (.int .i64 0) _ _ _ _ _ z0 z1 z2 z3 z4
      have BF := ((((((B0.tr hb2).setCell (p := ⟨w.heap.size + 1, 0, none⟩) (Nat.le_succ _) (.int .i64 0)).setCell (p := ⟨w.heap.size + 1, 1, none⟩) (Nat.le_succ _) (.int .i64 0)).setCell (p := ⟨w.heap.size + 1, 2, none⟩) (Nat.le_succ _) (.int .i64 0)).setCell (p := ⟨w.heap.size + 1, 3, none⟩) (Nat.le_succ _) (.int .i64 0)).setCell (p := ⟨w.heap.size + 1, 4, none⟩) (Nat.le_succ _) (.int .i64 0))
      rw [← hW9] at BF
      go_wp2
      rw [← hW9]
      clear hW9
      exact bodyPost_ret (v := .tuple #[.agg #[.int .i64 0, .int .i64 0, .int .i64 0, .int .i64 0, .int .i64 0], .int .i64 2]) (by simp [results, Try.results30, go_sem, X0', X1', X2', X3', X4']) rfl ⟨by rw [HD.out, HC.out]; rfl, by first | exact BF | exact BF.drew⟩
    · have hq := inB_iff.1 hin
      obtain ⟨Q, hQ⟩ : ∃ Q : Nat, q = (Q : Int) := ⟨q.toNat, by omega⟩
      subst hQ
      have hQl : Q < (dotsF p B D x t).length := by rw [dotsF_len]; omega
      have HC : Hid (dotOfC p B D x (Q : Int) t = 0) := by unfold Hid dotOfC; rw [if_neg (by simp [HL.out]), if_neg (by simp [hin])]
      obtain ⟨⟨a1, a2, a3, a4, a5⟩, HX⟩ : ∃ y, Hid ((dotsF p B D x t)[Q] = y) := ⟨_, Lib.hid rfl⟩
      have HD : Hid (dotOfP p B D x (Q : Int) t = (a1, a2, a3, a4, a5)) := by
        unfold Hid dotOfP
        rw [if_neg (by simp [HL.out]), if_neg (by simp [hin]), ← HX.out]
        simp [List.getD, hQl]
      obtain ⟨P, HP⟩ : ∃ P, Hid (propsP p = P) := ⟨_, Lib.hid rfl⟩
      rw [HP.out] at hin hp0 hp1 hq
      clear hL hv hvt
      go_enter Try.func30, Try.ntmps30
      go_wp2_with fail
      rw [← hW0]
      clear hW0
      refine (c_impl_frameCode p B D x t _ _ HR.out).mono ?_; rintro e w2 ⟨rfl, hb2⟩; rw [HL.out]
      have k0 := keepc hb2 k0
      have k1 := keepc hb2 k1
      go_wp2_with fail
      refine (c_impl_propsOf p _ _ (HR.out.below hb2) HV.out).mono ?_; rintro e w3 ⟨rfl, rfl⟩; rw [HP.out]
      go_wp2_with fail
      refine (c_impl_between (Q : Int) 0 (P - 1) _).mono ?_; rintro e w3 ⟨rfl, rfl⟩; rw [hin]
      go_wp2_with fail
      refine (c_impl_frame p B D x t _ _ (HR.out.below hb2) HV.out hB hD2 hx ht).mono ?_; rintro e w4 ⟨u, rfl, hu, hb4⟩
      obtain ⟨au, cu, rfl, hul, huc⟩ := hu
      obtain ⟨bu, ou, rfl, hcc⟩ := huc Q hQl
      have c0 : w4.cell? ⟨bu, ou + Q * 5, none⟩ = some (.int .i64 a1) := by have h := hcc 0 _ rfl; rw [HX.out] at h; exact h
      have c1 : w4.cell? ⟨bu, ou + Q * 5 + 1, none⟩ = some (.int .i64 a2) := by have h := hcc 1 _ rfl; rw [HX.out] at h; exact h
      have c2 : w4.cell? ⟨bu, ou + Q * 5 + 2, none⟩ = some (.int .i64 a3) := by have h := hcc 2 _ rfl; rw [HX.out] at h; exact h
      have c3 : w4.cell? ⟨bu, ou + Q * 5 + 3, none⟩ = some (.int .i64 a4) := by have h := hcc 3 _ rfl; rw [HX.out] at h; exact h
      have c4 : w4.cell? ⟨bu, ou + Q * 5 + 4, none⟩ = some (.int .i64 a5) := by have h := hcc 4 _ rfl; rw [HX.out] at h; exact h
      obtain ⟨LL, HLL⟩ : ∃ LL, Hid ((dotsF p B D x t).length = LL) := ⟨_, Lib.hid rfl⟩
      rw [show (dotsF p B D x t).length = LL from HLL.out]
      rw [HLL.out] at hQl hul
      have hq0 : (0 : Int) ≤ (Q : Int) := by omega
      have hq1 : (Q : Int) < (LL : Int) := by omega
      have hB24 := hb2.tr hb4
      clear huc hcc
      have hfld := fldF t (some ⟨bu, ou, none⟩) LL cu
      have z0 := keepc hB24 (kf 0 (by omega))
      have z1 := keepc hB24 (kf 1 (by omega))
      have z2 := keepc hB24 (kf 2 (by omega))
      have z3 := keepc hB24 (kf 3 (by omega))
      have z4 := keepc hB24 (kf 4 (by omega))
      have y0 := frozenc hB24 (kf 0 (by omega)) (ff 0 (by omega))
      have y1 := frozenc hB24 (kf 1 (by omega)) (ff 1 (by omega))
      have y2 := frozenc hB24 (kf 2 (by omega)) (ff 2 (by omega))
      have y3 := frozenc hB24 (kf 3 (by omega)) (ff 3 (by omega))
      have y4 := frozenc hB24 (kf 4 (by omega)) (ff 4 (by omega))
      obtain ⟨W9, hW9, X0', X1', X2', X3', X4', -, -⟩ := set5 w4 (w.heap.size + 1) (.int .i64 a1) (.int .i64 a2) (.int .i64 a3) (.int .i64 a4) (.int .i64 a5) _ _ _ _ _ z0 z1 z2 z3 z4
      have BF := ((((((B0.tr hB24).setCell (p := ⟨w.heap.size + 1, 0, none⟩) (Nat.le_succ _) (.int .i64 a1)).setCell (p := ⟨w.heap.size + 1, 1, none⟩) (Nat.le_succ _) (.int .i64 a2)).setCell (p := ⟨w.heap.size + 1, 2, none⟩) (Nat.le_succ _) (.int .i64 a3)).setCell (p := ⟨w.heap.size + 1, 3, none⟩) (Nat.le_succ _) (.int .i64 a4)).setCell (p := ⟨w.heap.size + 1, 4, none⟩) (Nat.le_succ _) (.int .i64 a5))
      rw [← hW9] at BF
      go_wp2
      rw [← hW9]
      clear hW9
      exact bodyPost_ret (v := .tuple #[.agg #[.int .i64 a1, .int .i64 a2, .int .i64 a3, .int .i64 a4, .int .i64 a5], .int .i64 0]) (by simp [results, Try.results30, go_sem, X0', X1', X2', X3', X4']) rfl ⟨by rw [HD.out, HC.out]; rfl, by first | exact BF | exact BF.drew⟩
  · have HD : Hid (dotOfP p B D x q t = zDot) := by unfold Hid dotOfP; rw [if_pos hL]
    have HC : Hid (dotOfC p B D x q t = frCode p B D x t) := by unfold Hid dotOfC; rw [if_pos hL]
    have t0 : (frCode p B D x t != 0) = true := by simpa using hL
    obtain ⟨L, HL⟩ : ∃ L, Hid (frCode p B D x t = L) := ⟨_, Lib.hid rfl⟩
    rw [HL.out] at t0 HC
    clear hL
    go_enter Try.func30, Try.ntmps30
    go_wp2_with fail
    rw [← hW0]
    clear hW0
    refine (c_impl_frameCode p B D x t _ _ HR.out).mono ?_; rintro e w2 ⟨rfl, hb2⟩; rw [HL.out]
    have z0 := keepc hb2 (kf 0 (by omega))
    have z1 := keepc hb2 (kf 1 (by omega))
    have z2 := keepc hb2 (kf 2 (by omega))
    have z3 := keepc hb2 (kf 3 (by omega))
    have z4 := keepc hb2 (kf 4 (by omega))
    have y0 := frozenc hb2 (kf 0 (by omega)) (ff 0 (by omega))
    have y1 := frozenc hb2 (kf 1 (by omega)) (ff 1 (by omega))
    have y2 := frozenc hb2 (kf 2 (by omega)) (ff 2 (by omega))
    have y3 := frozenc hb2 (kf 3 (by omega)) (ff 3 (by omega))
    have y4 := frozenc hb2 (kf 4 (by omega)) (ff 4 (by omega))
    obtain ⟨W9, hW9, X0', X1', X2', X3', X4', -, -⟩ := set5 w2 (w.heap.size + 1) (.int .i64 0) (.int .i64 0) (.int .i64 0) (.int .i64 0) (.int .i64 0) _ _ _ _ _ z0 z1 z2 z3 z4
    have BF := ((((((B0.tr hb2).setCell (p := ⟨w.heap.size + 1, 0, none⟩) (Nat.le_succ _) (.int .i64 0)).setCell (p := ⟨w.heap.size + 1, 1, none⟩) (Nat.le_succ _) (.int .i64 0)).setCell (p := ⟨w.heap.size + 1, 2, none⟩) (Nat.le_succ _) (.int .i64 0)).setCell (p := ⟨w.heap.size + 1, 3, none⟩) (Nat.le_succ _) (.int .i64 0)).setCell (p := ⟨w.heap.size + 1, 4, none⟩) (Nat.le_succ _) (.int .i64 0))
    rw [← hW9] at BF
    go_wp2
    rw [← hW9]
    clear hW9
    exact bodyPost_ret (v := .tuple #[.agg #[.int .i64 0, .int .i64 0, .int .i64 0, .int .i64 0, .int .i64 0], .int .i64 L]) (by simp [results, Try.results30, go_sem, X0', X1', X2', X3', X4']) rfl ⟨by rw [HD.out, HC.out]; rfl, by first | exact BF | exact BF.drew⟩
set_option maxHeartbeats 4000000 in
set_option maxRecDepth 100000 in
theorem c_spec_DotOf (p : List Int) (B D x q t : Int) (v : Value) (w : World) (hr : RdI w v p) :
    Calls Try.prog 28 #[v, .agg #[.int .i64 B, .int .i64 D], .int .i64 x, .int .i64 q, .int .i64 t] w fun e w' => e = .returned (.tuple #[aggDot (dotOfP p B D x q t), .int .i64 (dotOfC p B D x q t)]) ∧ Below w.heap.size w w' := by
  obtain ⟨W0, hW0, k0, k1, kf, ff, B0⟩ := boxTD w B D
  have HR : Hid (RdI W0 v p) := Lib.hid (hr.below B0)
  clear hr
  by_cases hL : frCode p B D x t = 0
  · obtain ⟨hv, hvt, hx, ht⟩ := frCode_ok hL
    obtain ⟨hB, hD⟩ := validT_bd hvt
    have hD2 : 1 ≤ D ∧ D ≤ 60 := by omega
    have hp0 := props_nonneg hv
    have hp1 := props_le hv
    have HV := Lib.hid hv
    have HL := Lib.hid hL
    cases hin : inB q 0 (propsP p - 1)
    · have HD : Hid (dotOfP p B D x q t = zDot) := by unfold Hid dotOfP; rw [if_neg (by simp [HL.out]), if_pos hin]
      have HC : Hid (dotOfC p B D x q t = 2) := by unfold Hid dotOfC; rw [if_neg (by simp [HL.out]), if_pos hin]
      obtain ⟨P, HP⟩ : ∃ P, Hid (propsP p = P) := ⟨_, Lib.hid rfl⟩
      rw [HP.out] at hin hp0 hp1
      clear hL hv hvt
      go_enter Try.func28, Try.ntmps28
      go_wp2_with fail
      rw [← hW0]
      clear hW0
      refine (c_spec_l26Code p B D x t _ _ HR.out).mono ?_; rintro e w2 ⟨rfl, hb2⟩; rw [HL.out]
      go_wp2_with fail
      refine (c_spec_l02Props p _ _ (HR.out.below hb2) HV.out).mono ?_; rintro e w3 ⟨rfl, rfl⟩; rw [HP.out]
      go_wp2_with fail
      refine (c_spec_l00In q 0 (P - 1) _).mono ?_; rintro e w3 ⟨rfl, rfl⟩; rw [hin]
      have z0 := keepc hb2 (kf 0 (by omega))
      have z1 := keepc hb2 (kf 1 (by omega))
      have z2 := keepc hb2 (kf 2 (by omega))
      have z3 := keepc hb2 (kf 3 (by omega))
      have z4 := keepc hb2 (kf 4 (by omega))
      have y0 := frozenc hb2 (kf 0 (by omega)) (ff 0 (by omega))
      have y1 := frozenc hb2 (kf 1 (by omega)) (ff 1 (by omega))
      have y2 := frozenc hb2 (kf 2 (by omega)) (ff 2 (by omega))
      have y3 := frozenc hb2 (kf 3 (by omega)) (ff 3 (by omega))
      have y4 := frozenc hb2 (kf 4 (by omega)) (ff 4 (by omega))
      obtain ⟨W9, hW9, X0', X1', X2', X3', X4', -, -⟩ := set5 w2 (w.heap.size + 1) (.int .i64 0) (.int .i64 0) (.int .i64 0) (.int .i64 0) (.int .i64 0) _ _ _ _ _ z0 z1 z2 z3 z4
      have BF := ((((((B0.tr hb2).setCell (p := ⟨w.heap.size + 1, 0, none⟩) (Nat.le_succ _) (.int .i64 0)).setCell (p := ⟨w.heap.size + 1, 1, none⟩) (Nat.le_succ _) (.int .i64 0)).setCell (p := ⟨w.heap.size + 1, 2, none⟩) (Nat.le_succ _) (.int .i64 0)).setCell (p := ⟨w.heap.size + 1, 3, none⟩) (Nat.le_succ _) (.int .i64 0)).setCell (p := ⟨w.heap.size + 1, 4, none⟩) (Nat.le_succ _) (.int .i64 0))
      rw [← hW9] at BF
      go_wp2
      rw [← hW9]
      clear hW9
      exact bodyPost_ret (v := .tuple #[.agg #[.int .i64 0, .int .i64 0, .int .i64 0, .int .i64 0, .int .i64 0], .int .i64 2]) (by simp [results, Try.results28, go_sem, X0', X1', X2', X3', X4']) rfl ⟨by rw [HD.out, HC.out]; rfl, by first | exact BF | exact BF.drew⟩
    · have hq := inB_iff.1 hin
      obtain ⟨Q, hQ⟩ : ∃ Q : Nat, q = (Q : Int) := ⟨q.toNat, by omega⟩
      subst hQ
      have hQl : Q < (dotsF p B D x t).length := by rw [dotsF_len]; omega
      have HC : Hid (dotOfC p B D x (Q : Int) t = 0) := by unfold Hid dotOfC; rw [if_neg (by simp [HL.out]), if_neg (by simp [hin])]
      obtain ⟨⟨a1, a2, a3, a4, a5⟩, HX⟩ : ∃ y, Hid ((dotsF p B D x t)[Q] = y) := ⟨_, Lib.hid rfl⟩
      have HD : Hid (dotOfP p B D x (Q : Int) t = (a1, a2, a3, a4, a5)) := by
        unfold Hid dotOfP
        rw [if_neg (by simp [HL.out]), if_neg (by simp [hin]), ← HX.out]
        simp [List.getD, hQl]
      obtain ⟨P, HP⟩ : ∃ P, Hid (propsP p = P) := ⟨_, Lib.hid rfl⟩
      rw [HP.out] at hin hp0 hp1 hq
      clear hL hv hvt
      go_enter Try.func28, Try.ntmps28
      go_wp2_with fail
      rw [← hW0]
      clear hW0
      refine (c_spec_l26Code p B D x t _ _ HR.out).mono ?_; rintro e w2 ⟨rfl, hb2⟩; rw [HL.out]
      have k0 := keepc hb2 k0
      have k1 := keepc hb2 k1
      go_wp2_with fail
      refine (c_spec_l02Props p _ _ (HR.out.below hb2) HV.out).mono ?_; rintro e w3 ⟨rfl, rfl⟩; rw [HP.out]
      go_wp2_with fail
      refine (c_spec_l00In (Q : Int) 0 (P - 1) _).mono ?_; rintro e w3 ⟨rfl, rfl⟩; rw [hin]
      go_wp2_with fail
      refine (c_spec_l26Dots p B D x t _ _ (HR.out.below hb2) HV.out hB hD2 hx ht).mono ?_; rintro e w4 ⟨u, rfl, hu, hb4⟩
      obtain ⟨au, cu, rfl, hul, huc⟩ := hu
      obtain ⟨bu, ou, rfl, hcc⟩ := huc Q hQl
      have c0 : w4.cell? ⟨bu, ou + Q * 5, none⟩ = some (.int .i64 a1) := by have h := hcc 0 _ rfl; rw [HX.out] at h; exact h
      have c1 : w4.cell? ⟨bu, ou + Q * 5 + 1, none⟩ = some (.int .i64 a2) := by have h := hcc 1 _ rfl; rw [HX.out] at h; exact h
      have c2 : w4.cell? ⟨bu, ou + Q * 5 + 2, none⟩ = some (.int .i64 a3) := by have h := hcc 2 _ rfl; rw [HX.out] at h; exact h
      have c3 : w4.cell? ⟨bu, ou + Q * 5 + 3, none⟩ = some (.int .i64 a4) := by have h := hcc 3 _ rfl; rw [HX.out] at h; exact h
      have c4 : w4.cell? ⟨bu, ou + Q * 5 + 4, none⟩ = some (.int .i64 a5) := by have h := hcc 4 _ rfl; rw [HX.out] at h; exact h
      obtain ⟨LL, HLL⟩ : ∃ LL, Hid ((dotsF p B D x t).length = LL) := ⟨_, Lib.hid rfl⟩
      rw [show (dotsF p B D x t).length = LL from HLL.out]
      rw [HLL.out] at hQl hul
      have hq0 : (0 : Int) ≤ (Q : Int) := by omega
      have hq1 : (Q : Int) < (LL : Int) := by omega
      have hB24 := hb2.tr hb4
      clear huc hcc
      have z0 := keepc hB24 (kf 0 (by omega))
      have z1 := keepc hB24 (kf 1 (by omega))
      have z2 := keepc hB24 (kf 2 (by omega))
      have z3 := keepc hB24 (kf 3 (by omega))
      have z4 := keepc hB24 (kf 4 (by omega))
      have y0 := frozenc hB24 (kf 0 (by omega)) (ff 0 (by omega))
      have y1 := frozenc hB24 (kf 1 (by omega)) (ff 1 (by omega))
      have y2 := frozenc hB24 (kf 2 (by omega)) (ff 2 (by omega))
      have y3 := frozenc hB24 (kf 3 (by omega)) (ff 3 (by omega))
      have y4 := frozenc hB24 (kf 4 (by omega)) (ff 4 (by omega))
      obtain ⟨W9, hW9, X0', X1', X2', X3', X4', -, -⟩ := set5 w4 (w.heap.size + 1) (.int .i64 a1) (.int .i64 a2) (.int .i64 a3) (.int .i64 a4) (.int .i64 a5) _ _ _ _ _ z0 z1 z2 z3 z4
      have BF := ((((((B0.tr hB24).setCell (p := ⟨w.heap.size + 1, 0, none⟩) (Nat.le_succ _) (.int .i64 a1)).setCell (p := ⟨w.heap.size + 1, 1, none⟩) (Nat.le_succ _) (.int .i64 a2)).setCell (p := ⟨w.heap.size + 1, 2, none⟩) (Nat.le_succ _) (.int .i64 a3)).setCell (p := ⟨w.heap.size + 1, 3, none⟩) (Nat.le_succ _) (.int .i64 a4)).setCell (p := ⟨w.heap.size + 1, 4, none⟩) (Nat.le_succ _) (.int .i64 a5))
      rw [← hW9] at BF
      go_wp2
      rw [← hW9]
      clear hW9
      exact bodyPost_ret (v := .tuple #[.agg #[.int .i64 a1, .int .i64 a2, .int .i64 a3, .int .i64 a4, .int .i64 a5], .int .i64 0]) (by simp [results, Try.results28, go_sem, X0', X1', X2', X3', X4']) rfl ⟨by rw [HD.out, HC.out]; rfl, by first | exact BF | exact BF.drew⟩
  · have HD : Hid (dotOfP p B D x q t = zDot) := by unfold Hid dotOfP; rw [if_pos hL]
    have HC : Hid (dotOfC p B D x q t = frCode p B D x t) := by unfold Hid dotOfC; rw [if_pos hL]
    have t0 : (frCode p B D x t != 0) = true := by simpa using hL
    obtain ⟨L, HL⟩ : ∃ L, Hid (frCode p B D x t = L) := ⟨_, Lib.hid rfl⟩
    rw [HL.out] at t0 HC
    clear hL
    go_enter Try.func28, Try.ntmps28
    go_wp2_with fail
    rw [← hW0]
    clear hW0
    refine (c_spec_l26Code p B D x t _ _ HR.out).mono ?_; rintro e w2 ⟨rfl, hb2⟩; rw [HL.out]
    have z0 := keepc hb2 (kf 0 (by omega))
    have z1 := keepc hb2 (kf 1 (by omega))
    have z2 := keepc hb2 (kf 2 (by omega))
    have z3 := keepc hb2 (kf 3 (by omega))
    have z4 := keepc hb2 (kf 4 (by omega))
    have y0 := frozenc hb2 (kf 0 (by omega)) (ff 0 (by omega))
    have y1 := frozenc hb2 (kf 1 (by omega)) (ff 1 (by omega))
    have y2 := frozenc hb2 (kf 2 (by omega)) (ff 2 (by omega))
    have y3 := frozenc hb2 (kf 3 (by omega)) (ff 3 (by omega))
    have y4 := frozenc hb2 (kf 4 (by omega)) (ff 4 (by omega))
    obtain ⟨W9, hW9, X0', X1', X2', X3', X4', -, -⟩ := set5 w2 (w.heap.size + 1) (.int .i64 0) (.int .i64 0) (.int .i64 0) (.int .i64 0) (.int .i64 0) _ _ _ _ _ z0 z1 z2 z3 z4
    have BF := ((((((B0.tr hb2).setCell (p := ⟨w.heap.size + 1, 0, none⟩) (Nat.le_succ _) (.int .i64 0)).setCell (p := ⟨w.heap.size + 1, 1, none⟩) (Nat.le_succ _) (.int .i64 0)).setCell (p := ⟨w.heap.size + 1, 2, none⟩) (Nat.le_succ _) (.int .i64 0)).setCell (p := ⟨w.heap.size + 1, 3, none⟩) (Nat.le_succ _) (.int .i64 0)).setCell (p := ⟨w.heap.size + 1, 4, none⟩) (Nat.le_succ _) (.int .i64 0))
    rw [← hW9] at BF
    go_wp2
    rw [← hW9]
    clear hW9
    exact bodyPost_ret (v := .tuple #[.agg #[.int .i64 0, .int .i64 0, .int .i64 0, .int .i64 0, .int .i64 0], .int .i64 L]) (by simp [results, Try.results28, go_sem, X0', X1', X2', X3', X4']) rfl ⟨by rw [HD.out, HC.out]; rfl, by first | exact BF | exact BF.drew⟩
end Go.Proofs.Ytddfdppoclnpcaa
