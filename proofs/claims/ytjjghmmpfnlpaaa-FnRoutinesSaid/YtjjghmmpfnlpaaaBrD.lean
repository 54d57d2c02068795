/- Contracts that the law on bridges wants: IsGround, CanFollow; the reference's PropsOf, GroundState, StateOf; a run along a walk. -/
import Derived.Test.YtjjghmmpfnlpaaaPlainSt
import Derived.Test.YtjjghmmpfnlpaaaRunT
import Derived.Test.YtjjghmmpfnlpaaaLoop
namespace Go.Proofs.Ytjjghmmpfnlpaaa
open Go.ChangeShapes Go.WideShapes Go.ChangeAt Go.RowKit
set_option linter.unusedVariables false
set_option linter.unusedSimpArgs false
theorem run_wk {n h m m' : Int} {xs : List Int} (hh : 1 ≤ h ∧ h ≤ 10) (hm : m ∈ maskL n h) (hw : Wk h m xs m') : runH h m = h ∧ runS h m xs = m' ∧ runC h m xs = 0 ∧ runI h m xs = (xs.length : Int) := by
  have hv : validB h m = true := validB_iff.2 ⟨hh, by have := (mem_maskL.1 hm).1; omega⟩
  obtain ⟨hc, hend⟩ := hw.at
  have hn : runN h m xs = xs.length := runN_eq (Nat.le_refl _) (fun i hi => hc i hi) (fun h => absurd h (Nat.lt_irrefl _))
  have hok : runOk h m xs = true := by unfold runOk; rw [hn]; simp
  refine ⟨?_, ?_, ?_, ?_⟩
  · unfold runH; rw [hv]; rfl
  · unfold runS; rw [hv, cond_true, hn]; exact hend
  · unfold runC; rw [hv, hok]; rfl
  · unfold runI; rw [hv, hn]; rfl
theorem c_spec_PropsOf (p : List Int) (v : Value) (w : World) (hr : RdI w v p) (hv : validP p = true) :
    Calls Try.prog 43 #[v] w fun e w' => e = .returned (.tuple #[.int .i64 (propsP p), .int .i64 0]) ∧ Below w.heap.size w w' := by
  have HR := Lib.hid hr
  have HV := Lib.hid hv
  clear hr hv
  go_enter Try.func43, Try.ntmps43
  go_wp2_with fail
  refine (c_spec_l02Ok p _ _ HR.out).mono ?_; rintro e w1 ⟨rfl, hb1⟩; rw [HV.out]
  go_wp2_with fail
  refine (c_spec_l02Props p _ _ (HR.out.below hb1) HV.out).mono ?_; rintro e w2 ⟨rfl, rfl⟩
  go_wp2
  go_ret2
  exact ⟨rfl, hb1⟩
set_option maxHeartbeats 2000000 in
set_option maxRecDepth 100000 in
theorem c_spec_GroundState (n h : Int) (w : World) (hh : 1 ≤ h ∧ h ≤ 10) (hn : 0 ≤ n ∧ n ≤ h) :
    Calls Try.prog 44 #[.int .i64 n, .int .i64 h] w fun e w' => e = .returned (.tuple #[.agg #[.int .i64 h, .int .i64 (groundI n)], .int .i64 0]) ∧ Below w.heap.size w w' := by
  obtain ⟨W0, hW0, k0, k1, B0⟩ := oneState w 60 0 0
  have f0 : W0.frozen? ⟨w.heap.size, 0, none⟩ = false := by rw [hW0]; go_simp
  have f1 : W0.frozen? ⟨w.heap.size, 1, none⟩ = false := by rw [hW0]; go_simp
  have h1 := inB_iff.2 hh
  have h2 := inB_iff.2 hn
  obtain ⟨G, hG⟩ : ∃ G, Hid (groundI n = G) := ⟨_, Lib.hid rfl⟩
  rw [hG.out]
  go_enter Try.func44, Try.ntmps44
  go_wp2_with fail
  rw [← hW0]
  clear hW0
  refine (c_spec_l08Height h _).mono ?_; rintro e w1 ⟨rfl, rfl⟩; rw [h1]
  go_wp2_with fail
  refine (c_spec_l00In n 0 h _).mono ?_; rintro e w1 ⟨rfl, rfl⟩; rw [h2]
  obtain ⟨X0, X1, -, hg⟩ := set2 W0 w.heap.size (.int .i64 h) (.int .i64 G) _ _ k0 k1
  have BZ := (B0.setCell (p := ⟨w.heap.size, 0, none⟩) (Nat.le_refl _) (.int .i64 h)).setCell (p := ⟨w.heap.size, 1, none⟩) (Nat.le_refl _) (.int .i64 G)
  go_wp2_with fail
  refine (c_spec_l08Ground n _ (by omega)).mono ?_; rintro e w1 ⟨rfl, rfl⟩; rw [hG.out]
  go_wp2
  generalize ((W0.setCell ⟨w.heap.size, 0, none⟩ (.int .i64 h)).setCell ⟨w.heap.size, 1, none⟩ (.int .i64 G)) = wz at *
  exact bodyPost_ret (v := .tuple #[.agg #[.int .i64 h, .int .i64 G], .int .i64 0]) (by simp [results, Try.results44, go_sem, X0, X1]) rfl ⟨rfl, by first | exact BZ | exact BZ.drew⟩
end Go.Proofs.Ytjjghmmpfnlpaaa
