/- Contracts: impl.RoutineThrows and impl.RoutineBeats. -/
import Derived.Test.YtjjghmmpfnlpaaaThrD
namespace Go.Proofs.Ytjjghmmpfnlpaaa
open Go.ChangeShapes Go.WideShapes Go.ChangeAt Go.RowKit
set_option linter.unusedSimpArgs false
set_option linter.unusedVariables false
theorem c_impl_RoutineThrows (X : List Part2) (h : Int) (v : Value) (w : World) (hr : RdP w v X) :
    Calls Try.prog 33 #[.agg #[.int .i64 h, v]] w fun e w' => ∃ u, e = .returned (.tuple #[u, .int .i64 (rtC h X)]) ∧ OwnI1 w.heap.size w' u (thX h X) ∧ Below w.heap.size w w' := by
  obtain ⟨W0, hW0, k0, k1, B0⟩ := routOf w 26 h v
  have hr0 := hr.below B0
  have hr' := hr
  obtain ⟨a1, cap1, rfl, -, -⟩ := hr'
  cases hv : validR h X
  · have HC : Hid (rtC h X = 1) := by unfold Hid rtC; rw [hv]; rfl
    have HX : Hid (thX h X = []) := by unfold Hid thX; rw [hv]; rfl
    go_enter Try.func33, Try.ntmps33
    go_wp2_with fail
    rw [← hW0]
    clear hW0
    refine (c_impl_ValidRoutine X h _ _ hr0).mono ?_; rintro e w1 ⟨rfl, hb1⟩; rw [hv]
    go_wp2
    go_ret2
    exact ⟨_, by rw [HC.out]; rfl, by rw [HX.out]; exact OwnI.nil _ rfl, B0.tr hb1⟩
  · have HC : Hid (rtC h X = 0) := by unfold Hid rtC; rw [hv]; rfl
    have HX : Hid (thX h X = thrR h X) := by unfold Hid thX; rw [hv]; rfl
    have R := rout_ok hv
    go_enter Try.func33, Try.ntmps33
    go_wp2_with fail
    rw [← hW0]
    clear hW0
    refine (c_impl_ValidRoutine X h _ _ hr0).mono ?_; rintro e w1 ⟨rfl, hb1⟩; rw [hv]
    have k0 := keepc hb1 k0
    have k1 := keepc hb1 k1
    go_wp2_with fail
    refine (c_impl_Routine_throws X h _ _ (hr0.below hb1) R).mono ?_; rintro e w2 ⟨u2, q2, rfl, ho2, hq2, hb2⟩
    have B1 := (B0.tr hb1).size
    go_wp2
    go_ret2
    exact ⟨u2, by rw [HC.out]; rfl, by rw [HX.out]; exact ho2.base B1, (B0.tr hb1).tr hb2⟩
theorem c_impl_RoutineBeats (X : List Part2) (h : Int) (v : Value) (w : World) (hr : RdP w v X) :
    Calls Try.prog 18 #[.agg #[.int .i64 h, v]] w fun e w' => e = .returned (.tuple #[.int .i64 ((thX h X).length : Int), .int .i64 (rtC h X)]) ∧ Below w.heap.size w w' := by
  obtain ⟨W0, hW0, k0, k1, B0⟩ := routOf w 26 h v
  have hr0 := hr.below B0
  have hr' := hr
  obtain ⟨a1, cap1, rfl, -, -⟩ := hr'
  cases hv : validR h X
  · have HC : Hid (rtC h X = 1) := by unfold Hid rtC; rw [hv]; rfl
    have HX : Hid (((thX h X).length : Int) = 0) := by unfold Hid thX; rw [hv]; rfl
    go_enter Try.func18, Try.ntmps18
    go_wp2_with fail
    rw [← hW0]
    clear hW0
    refine (c_impl_ValidRoutine X h _ _ hr0).mono ?_; rintro e w1 ⟨rfl, hb1⟩; rw [hv]
    go_wp2
    go_ret2
    exact ⟨by rw [HC.out, HX.out]; rfl, B0.tr hb1⟩
  · have HC : Hid (rtC h X = 0) := by unfold Hid rtC; rw [hv]; rfl
    have HX : Hid (thX h X = thrR h X) := by unfold Hid thX; rw [hv]; rfl
    have R := rout_ok hv
    go_enter Try.func18, Try.ntmps18
    go_wp2_with fail
    rw [← hW0]
    clear hW0
    refine (c_impl_ValidRoutine X h _ _ hr0).mono ?_; rintro e w1 ⟨rfl, hb1⟩; rw [hv]
    have k0 := keepc hb1 k0
    have k1 := keepc hb1 k1
    go_wp2_with fail
    refine (c_impl_Routine_throws X h _ _ (hr0.below hb1) R).mono ?_; rintro e w2 ⟨u2, q2, rfl, ho2, hq2, hb2⟩
    obtain ⟨a2, c2, rfl, hl2, -⟩ := ho2.rd
    go_wp2
    go_ret2
    exact ⟨by rw [HC.out, HX.out]; rfl, (B0.tr hb1).tr hb2⟩
end Go.Proofs.Ytjjghmmpfnlpaaa
