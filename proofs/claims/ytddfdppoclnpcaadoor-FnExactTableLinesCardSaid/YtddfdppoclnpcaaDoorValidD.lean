/- Contracts: valid timings, widths and desks. -/
import Derived.Test.YtddfdppoclnpcaaDoorDesk
import Derived.Test.YtddfdppoclnpcaaDoorPat
import Derived.Deep.RegionHeld3
namespace Go.Proofs.YtddfdppoclnpcaaDoor
open Go.ChangeShapes Go.WideShapes Go.ChangeAt Go.RowKit
set_option linter.unusedVariables false
theorem c_impl_ValidTiming (b d : Int) (w : World) :
    Calls Tryd.prog 69 #[.agg #[.int .i64 b, .int .i64 d]] w fun e w' => e = .returned (.bool (validT b d)) ∧ Below w.heap.size w w' := by
  cases h1 : inB b 2 30
  · go_enter Tryd.func69, Tryd.ntmps69
    go_wp2_with (go_at_call 86; refine (c_impl_between _ _ _ _).mono ?_; rintro e w1 ⟨rfl, rfl⟩)
    go_ret
    exact ⟨by simp [validT, h1], by (repeat (first | (with_reducible assumption) | (with_reducible exact Below.refl _ _) | (with_reducible refine Below.setCell ?_ (by first | (simp; done) | (simp; omega)) _) | (with_reducible refine Below.al ?_ _) | (with_reducible refine Below.dr ?_) | (with_reducible refine Below.drN ?_ _) | (with_reducible refine Below.tr ?_ (by with_reducible assumption))))⟩
  · have hb := inB_iff.1 h1
    go_enter Tryd.func69, Tryd.ntmps69
    go_wp2_with (go_at_call 86; refine (c_impl_between _ _ _ _).mono ?_; rintro e w1 ⟨rfl, rfl⟩)
    go_ret
    exact ⟨by simp [validT, h1], by (repeat (first | (with_reducible assumption) | (with_reducible exact Below.refl _ _) | (with_reducible refine Below.setCell ?_ (by first | (simp; done) | (simp; omega)) _) | (with_reducible refine Below.al ?_ _) | (with_reducible refine Below.dr ?_) | (with_reducible refine Below.drN ?_ _) | (with_reducible refine Below.tr ?_ (by with_reducible assumption))))⟩
theorem c_spec_l15Ok (b d : Int) (w : World) :
    Calls Tryd.prog 65 #[.agg #[.int .i64 b, .int .i64 d]] w fun e w' => e = .returned (.bool (validT b d)) ∧ Below w.heap.size w w' := by
  cases h1 : inB b 2 30
  · go_enter Tryd.func65, Tryd.ntmps65
    go_wp2_with (go_at_call 33; refine (c_spec_l00In _ _ _ _).mono ?_; rintro e w1 ⟨rfl, rfl⟩)
    go_ret
    exact ⟨by simp [validT, h1], by (repeat (first | (with_reducible assumption) | (with_reducible exact Below.refl _ _) | (with_reducible refine Below.setCell ?_ (by first | (simp; done) | (simp; omega)) _) | (with_reducible refine Below.al ?_ _) | (with_reducible refine Below.dr ?_) | (with_reducible refine Below.drN ?_ _) | (with_reducible refine Below.tr ?_ (by with_reducible assumption))))⟩
  · have hb := inB_iff.1 h1
    go_enter Tryd.func65, Tryd.ntmps65
    go_wp2_with (go_at_call 33; refine (c_spec_l00In _ _ _ _).mono ?_; rintro e w1 ⟨rfl, rfl⟩)
    go_ret
    exact ⟨by simp [validT, h1], by (repeat (first | (with_reducible assumption) | (with_reducible exact Below.refl _ _) | (with_reducible refine Below.setCell ?_ (by first | (simp; done) | (simp; omega)) _) | (with_reducible refine Below.al ?_ _) | (with_reducible refine Below.dr ?_) | (with_reducible refine Below.drN ?_ _) | (with_reducible refine Below.tr ?_ (by with_reducible assumption))))⟩
theorem c_impl_isWidth (n : Int) (w : World) :
    Calls Tryd.prog 70 #[.int .i64 n] w fun e w' => e = .returned (.bool (inB n 0 16)) ∧ w = w' := by
  go_enter Tryd.func70, Tryd.ntmps70
  go_wp2_with (go_at_call 86; refine (c_impl_between _ _ _ _).mono ?_; rintro e w1 ⟨rfl, rfl⟩)
  go_ret
  exact ⟨rfl, rfl⟩
theorem c_spec_l28Width (n : Int) (w : World) :
    Calls Tryd.prog 66 #[.int .i64 n] w fun e w' => e = .returned (.bool (inB n 0 16)) ∧ w = w' := by
  go_enter Tryd.func66, Tryd.ntmps66
  go_wp2_with (go_at_call 33; refine (c_spec_l00In _ _ _ _).mono ?_; rintro e w1 ⟨rfl, rfl⟩)
  go_ret
  exact ⟨rfl, rfl⟩
def validD (xs : List Int) (b d wd : Int) : Bool := validP xs && validT b d && inB wd 0 16
theorem c_impl_ValidDesk (xs : List Int) (b d wd : Int) (v : Value) (w : World) (h : RdI w v xs) :
    Calls Tryd.prog 49 #[.agg #[v, .int .i64 b, .int .i64 d, .int .i64 wd]] w fun e w' => e = .returned (.bool (validD xs b d wd)) ∧ Below w.heap.size w w' := by
  have h' := h
  obtain ⟨a1, cap1, rfl, _, _⟩ := h'
  cases h1 : validP xs
  · go_enter Tryd.func49, Tryd.ntmps49
    go_wp2_with fail
    refine (c_impl_ValidPattern xs _ _ (h.below ((Below.refl _ _).al _))).mono ?_; rintro e w1 ⟨rfl, hb1⟩; obtain ⟨hc1, hf1⟩ := bcell hb1; have hz1_0 : w.heap.size < w1.heap.size := Nat.lt_of_lt_of_le (by first | omega | (simp; done) | (simp; omega)) hb1.size
    go_wp2
    go_ret
    exact ⟨by simp [validD, h1], by (repeat (first | (with_reducible assumption) | (with_reducible exact Below.refl _ _) | (with_reducible refine Below.setCell ?_ (by first | (simp; done) | (simp; omega)) _) | (with_reducible refine Below.al ?_ _) | (with_reducible refine Below.dr ?_) | (with_reducible refine Below.drN ?_ _) | (with_reducible refine Below.tr ?_ (by with_reducible assumption))))⟩
  · cases h2 : validT b d
    all_goals
      go_enter Tryd.func49, Tryd.ntmps49
      go_wp2_with fail
      refine (c_impl_ValidPattern xs _ _ (h.below ((Below.refl _ _).al _))).mono ?_; rintro e w1 ⟨rfl, hb1⟩; obtain ⟨hc1, hf1⟩ := bcell hb1; have hz1_0 : w.heap.size < w1.heap.size := Nat.lt_of_lt_of_le (by first | omega | (simp; done) | (simp; omega)) hb1.size
      go_wp2_with fail
      refine (c_impl_ValidTiming b d _).mono ?_; rintro e w2 ⟨rfl, hb2⟩; obtain ⟨hc2, hf2⟩ := bcell hb2; have hz2_0 : w.heap.size < w2.heap.size := Nat.lt_of_lt_of_le (by first | omega | (simp; done) | (simp; omega)) hb2.size
      go_wp2_with (go_at_call 70; refine (c_impl_isWidth _ _).mono ?_; rintro e w1 ⟨rfl, rfl⟩)
      go_ret
      exact ⟨by simp [validD, h1, h2], by (repeat (first | (with_reducible assumption) | (with_reducible exact Below.refl _ _) | (with_reducible refine Below.setCell ?_ (by first | (simp; done) | (simp; omega)) _) | (with_reducible refine Below.al ?_ _) | (with_reducible refine Below.dr ?_) | (with_reducible refine Below.drN ?_ _) | (with_reducible refine Below.tr ?_ (by with_reducible assumption))))⟩
theorem c_spec_l28Ok (xs : List Int) (b d wd : Int) (v : Value) (g : Nat) (w : World) (h : RdI w v xs)
    (k0 : w.cell? ⟨g, 0, none⟩ = some v) (k1 : w.cell? ⟨g, 1, none⟩ = some (.int .i64 b)) (k2 : w.cell? ⟨g, 2, none⟩ = some (.int .i64 d)) (k3 : w.cell? ⟨g, 3, none⟩ = some (.int .i64 wd)) :
    Calls Tryd.prog 45 #[.pointer (some ⟨g, 0, none⟩)] w fun e w' => e = .returned (.bool (validD xs b d wd)) ∧ Below w.heap.size w w' := by
  have h' := h
  obtain ⟨a1, cap1, rfl, _, _⟩ := h'
  have hg := World.block_lt_of_cell? w _ k0
  simp only at hg
  cases h1 : validP xs
  · go_enter Tryd.func45, Tryd.ntmps45
    go_wp2_with fail
    refine (c_spec_l02Ok xs _ _ h).mono ?_; rintro e w1 ⟨rfl, hb1⟩; obtain ⟨hc1, hf1⟩ := bcell hb1
    go_wp2
    go_ret
    exact ⟨by simp [validD, h1], by (repeat (first | (with_reducible assumption) | (with_reducible exact Below.refl _ _) | (with_reducible refine Below.setCell ?_ (by first | (simp; done) | (simp; omega)) _) | (with_reducible refine Below.al ?_ _) | (with_reducible refine Below.dr ?_) | (with_reducible refine Below.drN ?_ _) | (with_reducible refine Below.tr ?_ (by with_reducible assumption))))⟩
  · cases h2 : validT b d
    all_goals
      go_enter Tryd.func45, Tryd.ntmps45
      go_wp2_with fail
      refine (c_spec_l02Ok xs _ _ h).mono ?_; rintro e w1 ⟨rfl, hb1⟩; obtain ⟨hc1, hf1⟩ := bcell hb1
      have hg1 : g < w1.heap.size := by have := hb1.size; omega
      go_wp2_with fail
      refine (c_spec_l15Ok b d _).mono ?_; rintro e w2 ⟨rfl, hb2⟩; obtain ⟨hc2, hf2⟩ := bcell hb2
      go_wp2_with (go_at_call 66; refine (c_spec_l28Width _ _).mono ?_; rintro e w1 ⟨rfl, rfl⟩)
      go_ret
      exact ⟨by simp [validD, h1, h2], by (repeat (first | (with_reducible assumption) | (with_reducible exact Below.refl _ _) | (with_reducible refine Below.setCell ?_ (by first | (simp; done) | (simp; omega)) _) | (with_reducible refine Below.al ?_ _) | (with_reducible refine Below.dr ?_) | (with_reducible refine Below.drN ?_ _) | (with_reducible refine Below.tr ?_ (by with_reducible assumption))))⟩
end Go.Proofs.YtddfdppoclnpcaaDoor
