/- Contracts: valid timings. -/
import Derived.Test.YtgcmnpimkfmccaaDoorPat
import Derived.Deep.RegionHeld3
namespace Go.Proofs.YtgcmnpimkfmccaaDoor
open Go.ChangeShapes Go.WideShapes Go.ChangeAt Go.RowKit
set_option linter.unusedVariables false
theorem c_impl_ValidTiming (b d : Int) (w : World) :
    Calls Tryd.prog 61 #[.agg #[.int .i64 b, .int .i64 d]] w fun e w' => e = .returned (.bool (validT b d)) ∧ Below w.heap.size w w' := by
  cases h1 : inB b 2 30
  · go_enter Tryd.func61, Tryd.ntmps61
    go_wp2_with (go_at_call 17; refine (c_impl_between _ _ _ _).mono ?_; rintro e w1 ⟨rfl, rfl⟩)
    go_ret
    exact ⟨by simp [validT, h1], by (repeat (first | (with_reducible assumption) | (with_reducible exact Below.refl _ _) | (with_reducible refine Below.setCell ?_ (by first | (simp; done) | (simp; omega)) _) | (with_reducible refine Below.al ?_ _) | (with_reducible refine Below.dr ?_) | (with_reducible refine Below.drN ?_ _) | (with_reducible refine Below.tr ?_ (by with_reducible assumption))))⟩
  · have hb := inB_iff.1 h1
    go_enter Tryd.func61, Tryd.ntmps61
    go_wp2_with (go_at_call 17; refine (c_impl_between _ _ _ _).mono ?_; rintro e w1 ⟨rfl, rfl⟩)
    go_ret
    exact ⟨by simp [validT, h1], by (repeat (first | (with_reducible assumption) | (with_reducible exact Below.refl _ _) | (with_reducible refine Below.setCell ?_ (by first | (simp; done) | (simp; omega)) _) | (with_reducible refine Below.al ?_ _) | (with_reducible refine Below.dr ?_) | (with_reducible refine Below.drN ?_ _) | (with_reducible refine Below.tr ?_ (by with_reducible assumption))))⟩
theorem c_spec_l15Ok (b d : Int) (w : World) :
    Calls Tryd.prog 58 #[.agg #[.int .i64 b, .int .i64 d]] w fun e w' => e = .returned (.bool (validT b d)) ∧ Below w.heap.size w w' := by
  cases h1 : inB b 2 30
  · go_enter Tryd.func58, Tryd.ntmps58
    go_wp2_with (go_at_call 23; refine (c_spec_l00In _ _ _ _).mono ?_; rintro e w1 ⟨rfl, rfl⟩)
    go_ret
    exact ⟨by simp [validT, h1], by (repeat (first | (with_reducible assumption) | (with_reducible exact Below.refl _ _) | (with_reducible refine Below.setCell ?_ (by first | (simp; done) | (simp; omega)) _) | (with_reducible refine Below.al ?_ _) | (with_reducible refine Below.dr ?_) | (with_reducible refine Below.drN ?_ _) | (with_reducible refine Below.tr ?_ (by with_reducible assumption))))⟩
  · have hb := inB_iff.1 h1
    go_enter Tryd.func58, Tryd.ntmps58
    go_wp2_with (go_at_call 23; refine (c_spec_l00In _ _ _ _).mono ?_; rintro e w1 ⟨rfl, rfl⟩)
    go_ret
    exact ⟨by simp [validT, h1], by (repeat (first | (with_reducible assumption) | (with_reducible exact Below.refl _ _) | (with_reducible refine Below.setCell ?_ (by first | (simp; done) | (simp; omega)) _) | (with_reducible refine Below.al ?_ _) | (with_reducible refine Below.dr ?_) | (with_reducible refine Below.drN ?_ _) | (with_reducible refine Below.tr ?_ (by with_reducible assumption))))⟩
end Go.Proofs.YtgcmnpimkfmccaaDoor
