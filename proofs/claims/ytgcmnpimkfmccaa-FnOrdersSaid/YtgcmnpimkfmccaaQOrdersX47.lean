/- The law OrdersX: what it rests on, part 47 of 48. -/
import Derived.Test.YtgcmnpimkfmccaaQOrdersX46
namespace Go.Proofs.Ytgcmnpimkfmccaa
open Go.ChangeShapes Go.WideShapes Go.ChangeAt Go.RowKit
set_option linter.unusedSimpArgs false
set_option linter.unusedVariables false
theorem c_impl_RoutineBeats (X : List Part2) (h : Int) (v : Value) (w : World) (hr : RdP w v X) :
    Calls Try.prog 17 #[.agg #[.int .i64 h, v]] w fun e w' => e = .returned (.tuple #[.int .i64 ((thX h X).length : Int), .int .i64 (rtC h X)]) ∧ Below w.heap.size w w' := by
  obtain ⟨W0, hW0, k0, k1, B0⟩ := routOf w 26 h v
  have hr0 := hr.below B0
  have hr' := hr
  obtain ⟨a1, cap1, rfl, -, -⟩ := hr'
  cases hv : validR h X
  · have HC : Hid (rtC h X = 1) := by unfold Hid rtC; rw [hv]; rfl
    have HX : Hid (((thX h X).length : Int) = 0) := by unfold Hid thX; rw [hv]; rfl
    go_enter Try.func17, Try.ntmps17
    go_wp2_with fail
    rw [← hW0]
    clear hW0
    refine (c_impl_ValidRoutine X h _ _ hr0).mono ?_; rintro e w1 ⟨rfl, hb1⟩; rw [hv]
    go_wp2
    go_ret2
    exact ⟨by rw [HC.out, HX.out]; rfl, B0.tr hb1⟩
  · have HC : Hid (rtC h X = 0) := by unfold Hid rtC; rw [hv]; rfl
    have HX : Hid (thX h X = thrR h X) := by unfold Hid thX; rw [hv]; rfl
    have R := rout_ok hv
    go_enter Try.func17, Try.ntmps17
    go_wp2_with fail
    rw [← hW0]
    clear hW0
    refine (c_impl_ValidRoutine X h _ _ hr0).mono ?_; rintro e w1 ⟨rfl, hb1⟩; rw [hv]
    have k0 := keepc hb1 k0
    have k1 := keepc hb1 k1
    go_wp2_with fail
    refine (c_impl_Routine_throws X h _ _ (hr0.below hb1) R).mono ?_; rintro e w2 ⟨u2, q2, rfl, ho2, hq2, hb2⟩
    obtain ⟨a2, c2, rfl, hl2, -⟩ := ho2.rd
    go_wp2
    go_ret2
    exact ⟨by rw [HC.out, HX.out]; rfl, (B0.tr hb1).tr hb2⟩
end Go.Proofs.Ytgcmnpimkfmccaa
