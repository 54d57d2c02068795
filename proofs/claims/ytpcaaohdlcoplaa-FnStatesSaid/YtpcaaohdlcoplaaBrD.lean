/- Contracts that the law on bridges wants: IsGround, CanFollow; the reference's PropsOf, GroundState, StateOf; a run along a walk. -/
import Derived.Test.YtpcaaohdlcoplaaPlainCl
import Derived.Test.YtpcaaohdlcoplaaRunT
import Derived.Test.YtpcaaohdlcoplaaLoop
namespace Go.Proofs.Ytpcaaohdlcoplaa
open Go.ChangeShapes Go.WideShapes Go.ChangeAt Go.RowKit
set_option linter.unusedVariables false
set_option linter.unusedSimpArgs false
theorem run_wk {n h m m' : Int} {xs : List Int} (hh : 1 ≤ h ∧ h ≤ 10) (hm : m ∈ maskL n h) (hw : Wk h m xs m') : runH h m = h ∧ runS h m xs = m' ∧ runC h m xs = 0 ∧ runI h m xs = (xs.length : Int) := by
  have hv : validB h m = true := validB_iff.2 ⟨hh, by have := (mem_maskL.1 hm).1; omega⟩
  obtain ⟨hc, hend⟩ := hw.at
  have hn : runN h m xs = xs.length := runN_eq (Nat.le_refl _) (fun i hi => hc i hi) (fun h => absurd h (Nat.lt_irrefl _))
  have hok : runOk h m xs = true := by unfold runOk; rw [hn]; simp
  refine ⟨?_, ?_, ?_, ?_⟩
  · unfold runH; rw [hv]; rfl
  · unfold runS; rw [hv, cond_true, hn]; exact hend
  · unfold runC; rw [hv, hok]; rfl
  · unfold runI; rw [hv, hn]; rfl
theorem c_impl_isLow (p : List Int) (h : Int) (v : Value) (w : World) (hr : RdI w v p) (hv : validP p = true) (hh : 1 ≤ h ∧ h ≤ 10) (hp : ∀ x ∈ p, x ≤ h) :
    Calls Try.prog 72 #[v] w fun e w' => e = .returned (.bool true) ∧ Below w.heap.size w w' := by
  have HR := Lib.hid hr
  have hb := mxF_le (p := p) (h := 10) (by omega) (fun x hx => by have := hp x hx; omega)
  have t0 : decide (mxF 0 p ≤ 10) = true := by simp; omega
  have HV := Lib.hid hv
  clear hr hv hp
  go_enter Try.func72, Try.ntmps72
  go_wp2_with fail
  refine (c_impl_ValidPattern p _ _ HR.out).mono ?_; rintro e w1 ⟨rfl, hb1⟩; rw [HV.out]
  go_wp2_with fail
  refine (c_impl_highest p _ _ (HR.out.below hb1)).mono ?_; rintro e w2 ⟨rfl, rfl⟩
  go_wp2
  go_ret
  exact ⟨rfl, hb1⟩
set_option maxHeartbeats 2000000 in
set_option maxRecDepth 100000 in
theorem c_impl_IsGround (p : List Int) (h : Int) (v : Value) (w : World) (hr : RdI w v p) (hv : validP p = true) (hh : 1 ≤ h ∧ h ≤ 10) (hp : ∀ x ∈ p, x ≤ h) :
    Calls Try.prog 21 #[v] w fun e w' => e = .returned (.bool (stM p 0 h == groundI (propsP p))) ∧ Below w.heap.size w w' := by
  have HR := Lib.hid hr
  have hpb := props_bd hv hh hp
  have HX := Lib.hid (stM_high hv hh hp 0)
  have HV := Lib.hid hv
  have HP := Lib.hid hp
  clear hr hv hp
  go_enter Try.func21, Try.ntmps21
  go_wp2_with fail
  refine (c_impl_isLow p h _ _ HR.out HV.out hh HP.out).mono ?_; rintro e w1 ⟨rfl, hb1⟩
  go_wp2_with fail
  refine (c_impl_stateOf p 0 10 _ _ (HR.out.below hb1) HV.out (by omega) (by omega)).mono ?_; rintro e w2 ⟨rfl, hb2⟩
  rw [HX.out]
  go_wp2_with fail
  refine (c_impl_ground p 10 _ _ ((HR.out.below hb1).below hb2) HV.out (by omega)).mono ?_; rintro e w3 ⟨rfl, hb3⟩
  obtain ⟨A, hA⟩ : ∃ A, stM p 0 h = A := ⟨_, rfl⟩
  obtain ⟨B, hB⟩ : ∃ B, groundI (propsP p) = B := ⟨_, rfl⟩
  rw [hA, hB]
  by_cases hAB : A = B
  · subst hAB
    go_wp2
    go_ret
    exact ⟨by simp [hA, hB], (hb1.tr hb2).tr hb3⟩
  · have hAB2 : ¬ B = A := fun e => hAB e.symm
    go_wp2
    go_ret
    exact ⟨by simp [hA, hB, hAB], (hb1.tr hb2).tr hb3⟩
set_option maxHeartbeats 2000000 in
set_option maxRecDepth 100000 in
theorem c_impl_CanFollow (a b : List Int) (h : Int) (v1 v2 : Value) (w : World) (hr1 : RdI w v1 a) (hr2 : RdI w v2 b) (hva : validP a = true) (hvb : validP b = true) (hh : 1 ≤ h ∧ h ≤ 10) (hpa : ∀ x ∈ a, x ≤ h) (hpb : ∀ x ∈ b, x ≤ h) :
    Calls Try.prog 22 #[v1, v2] w fun e w' => e = .returned (.bool (stM a 0 h == stM b 0 h)) ∧ Below w.heap.size w w' := by
  have HR1 := Lib.hid hr1
  have HR2 := Lib.hid hr2
  have HXA := Lib.hid (stM_high hva hh hpa 0)
  have HXB := Lib.hid (stM_high hvb hh hpb 0)
  have HVA := Lib.hid hva
  have HVB := Lib.hid hvb
  have HPA := Lib.hid hpa
  have HPB := Lib.hid hpb
  clear hr1 hr2 hva hvb hpa hpb
  go_enter Try.func22, Try.ntmps22
  go_wp2_with fail
  refine (c_impl_isLow a h _ _ HR1.out HVA.out hh HPA.out).mono ?_; rintro e w1 ⟨rfl, hb1⟩
  go_wp2_with fail
  refine (c_impl_isLow b h _ _ (HR2.out.below hb1) HVB.out hh HPB.out).mono ?_; rintro e w2 ⟨rfl, hb2⟩
  have B2 := hb1.tr hb2
  go_wp2_with fail
  refine (c_impl_stateOf a 0 10 _ _ (HR1.out.below B2) HVA.out (by omega) (by omega)).mono ?_; rintro e w3 ⟨rfl, hb3⟩
  rw [HXA.out]
  go_wp2_with fail
  refine (c_impl_stateOf b 0 10 _ _ ((HR2.out.below B2).below hb3) HVB.out (by omega) (by omega)).mono ?_; rintro e w4 ⟨rfl, hb4⟩
  rw [HXB.out]
  obtain ⟨A, hA⟩ : ∃ A, stM a 0 h = A := ⟨_, rfl⟩
  obtain ⟨B, hB⟩ : ∃ B, stM b 0 h = B := ⟨_, rfl⟩
  rw [hA, hB]
  by_cases hAB : A = B
  · subst hAB
    go_wp2
    go_ret
    exact ⟨by simp [hA, hB], (B2.tr hb3).tr hb4⟩
  · have hAB2 : ¬ B = A := fun e => hAB e.symm
    go_wp2
    go_ret
    exact ⟨by simp [hA, hB, hAB], (B2.tr hb3).tr hb4⟩
theorem c_spec_PropsOf (p : List Int) (v : Value) (w : World) (hr : RdI w v p) (hv : validP p = true) :
    Calls Try.prog 14 #[v] w fun e w' => e = .returned (.tuple #[.int .i64 (propsP p), .int .i64 0]) ∧ Below w.heap.size w w' := by
  have HR := Lib.hid hr
  have HV := Lib.hid hv
  clear hr hv
  go_enter Try.func14, Try.ntmps14
  go_wp2_with fail
  refine (c_spec_l02Ok p _ _ HR.out).mono ?_; rintro e w1 ⟨rfl, hb1⟩; rw [HV.out]
  go_wp2_with fail
  refine (c_spec_l02Props p _ _ (HR.out.below hb1) HV.out).mono ?_; rintro e w2 ⟨rfl, rfl⟩
  go_wp2
  go_ret2
  exact ⟨rfl, hb1⟩
set_option maxHeartbeats 2000000 in
set_option maxRecDepth 100000 in
theorem c_spec_GroundState (n h : Int) (w : World) (hh : 1 ≤ h ∧ h ≤ 10) (hn : 0 ≤ n ∧ n ≤ h) :
    Calls Try.prog 15 #[.int .i64 n, .int .i64 h] w fun e w' => e = .returned (.tuple #[.agg #[.int .i64 h, .int .i64 (groundI n)], .int .i64 0]) ∧ Below w.heap.size w w' := by
  obtain ⟨W0, hW0, k0, k1, B0⟩ := oneState w 35 0 0
  have f0 : W0.frozen? ⟨w.heap.size, 0, none⟩ = false := by rw [hW0]; go_simp
  have f1 : W0.frozen? ⟨w.heap.size, 1, none⟩ = false := by rw [hW0]; go_simp
  have h1 := inB_iff.2 hh
  have h2 := inB_iff.2 hn
  obtain ⟨G, hG⟩ : ∃ G, Hid (groundI n = G) := ⟨_, Lib.hid rfl⟩
  rw [hG.out]
  go_enter Try.func15, Try.ntmps15
  go_wp2_with fail
  rw [← hW0]
  clear hW0
  refine (c_spec_l08Height h _).mono ?_; rintro e w1 ⟨rfl, rfl⟩; rw [h1]
  go_wp2_with fail
  refine (c_spec_l00In n 0 h _).mono ?_; rintro e w1 ⟨rfl, rfl⟩; rw [h2]
  obtain ⟨X0, X1, -, hg⟩ := set2 W0 w.heap.size (.int .i64 h) (.int .i64 G) _ _ k0 k1
  have BZ := (B0.setCell (p := ⟨w.heap.size, 0, none⟩) (Nat.le_refl _) (.int .i64 h)).setCell (p := ⟨w.heap.size, 1, none⟩) (Nat.le_refl _) (.int .i64 G)
  go_wp2_with fail
  refine (c_spec_l08Ground n _ (by omega)).mono ?_; rintro e w1 ⟨rfl, rfl⟩; rw [hG.out]
  go_wp2
  generalize ((W0.setCell ⟨w.heap.size, 0, none⟩ (.int .i64 h)).setCell ⟨w.heap.size, 1, none⟩ (.int .i64 G)) = wz at *
  exact bodyPost_ret (v := .tuple #[.agg #[.int .i64 h, .int .i64 G], .int .i64 0]) (by simp [results, Try.results15, go_sem, X0, X1]) rfl ⟨rfl, by first | exact BZ | exact BZ.drew⟩
set_option maxHeartbeats 2000000 in
set_option maxRecDepth 100000 in
theorem c_spec_StateOf (p : List Int) (h : Int) (v : Value) (w : World) (hr : RdI w v p) (hc : brC p p h = 0) :
    Calls Try.prog 16 #[v, .int .i64 0, .int .i64 h] w fun e w' => e = .returned (.tuple #[.agg #[.int .i64 h, .int .i64 (stM p 0 h)], .int .i64 0]) ∧ Below w.heap.size w w' := by
  obtain ⟨⟨hv, -⟩, hh, -, -⟩ := brC_ok hc
  obtain ⟨W0, hW0, k0, k1, B0⟩ := oneState w 35 0 0
  have f0 : W0.frozen? ⟨w.heap.size, 0, none⟩ = false := by rw [hW0]; go_simp
  have f1 : W0.frozen? ⟨w.heap.size, 1, none⟩ = false := by rw [hW0]; go_simp
  have HR : Hid (RdI W0 v p) := Lib.hid (hr.below B0)
  have HV := Lib.hid hv
  have HC := Lib.hid hc
  obtain ⟨G, hG⟩ : ∃ G, Hid (stM p 0 h = G) := ⟨_, Lib.hid rfl⟩
  rw [hG.out]
  clear hr hv hc
  go_enter Try.func16, Try.ntmps16
  go_wp2_with fail
  rw [← hW0]
  clear hW0
  refine (c_spec_l08Code p h _ _ HR.out).mono ?_; rintro e w1 ⟨rfl, hb1⟩; rw [HC.out]
  go_wp2_with fail
  refine (c_spec_l08Of p 0 h _ _ (HR.out.below hb1) HV.out (by omega) hh).mono ?_; rintro e w2 ⟨rfl, hb2⟩; rw [hG.out]
  have B12 := hb1.tr hb2
  have f0 := frozenc B12 k0 f0
  have f1 := frozenc B12 k1 f1
  have k0 := keepc B12 k0
  have k1 := keepc B12 k1
  obtain ⟨X0, X1, -, hg⟩ := set2 w2 w.heap.size (.int .i64 h) (.int .i64 G) _ _ k0 k1
  have BZ := ((B0.tr B12).setCell (p := ⟨w.heap.size, 0, none⟩) (Nat.le_refl _) (.int .i64 h)).setCell (p := ⟨w.heap.size, 1, none⟩) (Nat.le_refl _) (.int .i64 G)
  go_wp2
  generalize ((w2.setCell ⟨w.heap.size, 0, none⟩ (.int .i64 h)).setCell ⟨w.heap.size, 1, none⟩ (.int .i64 G)) = wz at *
  exact bodyPost_ret (v := .tuple #[.agg #[.int .i64 h, .int .i64 G], .int .i64 0]) (by simp [results, Try.results16, go_sem, X0, X1]) rfl ⟨rfl, by first | exact BZ | exact BZ.drew⟩
end Go.Proofs.Ytpcaaohdlcoplaa
