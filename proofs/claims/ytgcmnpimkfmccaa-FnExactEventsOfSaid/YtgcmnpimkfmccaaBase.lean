/- Contracts of the smallest functions: between, bits of states. -/
import Derived.Test.YtgcmnpimkfmccaaRows
import Derived.Test.YtgcmnpimkfmccaaMem
import Derived.Test.YtgcmnpimkfmccaaPlain
import Derived.ProofKit
import Derived.OpenShut
import Derived.Outline
import Derived.Deep.QuietTactic
import Derived.BigQuiet
namespace Go.Proofs.Ytgcmnpimkfmccaa
open Go.ChangeShapes Go.WideShapes Go.ChangeAt Go.RowKit
set_option linter.unusedVariables false
theorem c_impl_between (n lo hi : Int) (w : World) :
    Calls Try.prog 62 #[.int .i64 n, .int .i64 lo, .int .i64 hi] w fun e w' => e = .returned (.bool (inB n lo hi)) ∧ w = w' := by
  by_cases h1 : lo ≤ n
  · go_enter Try.func62, Try.ntmps62
    go_wp2
    go_ret
    exact ⟨by simp [inB, h1], rfl⟩
  · go_enter Try.func62, Try.ntmps62
    go_wp2
    go_ret
    exact ⟨by simp [inB]; omega, rfl⟩
theorem c_spec_l00In (n lo hi : Int) (w : World) :
    Calls Try.prog 56 #[.int .i64 n, .int .i64 lo, .int .i64 hi] w fun e w' => e = .returned (.bool (inB n lo hi)) ∧ w = w' := by
  by_cases h1 : lo ≤ n
  · go_enter Try.func56, Try.ntmps56
    go_wp2
    go_ret
    exact ⟨by simp [inB, h1], rfl⟩
  · go_enter Try.func56, Try.ntmps56
    go_wp2
    go_ret
    exact ⟨by simp [inB]; omega, rfl⟩
theorem c_impl_isHeight (n : Int) (w : World) :
    Calls Try.prog 69 #[.int .i64 n] w fun e w' => e = .returned (.bool (inB n 1 10)) ∧ w = w' := by
  go_enter Try.func69, Try.ntmps69
  go_wp2_with (go_at_call 62; refine (c_impl_between _ _ _ _).mono ?_; rintro e w1 ⟨rfl, rfl⟩)
  go_ret
  exact ⟨rfl, rfl⟩
theorem c_spec_l08Height (n : Int) (w : World) :
    Calls Try.prog 75 #[.int .i64 n] w fun e w' => e = .returned (.bool (inB n 1 10)) ∧ w = w' := by
  go_enter Try.func75, Try.ntmps75
  go_wp2_with (go_at_call 56; refine (c_spec_l00In _ _ _ _).mono ?_; rintro e w1 ⟨rfl, rfl⟩)
  go_ret
  exact ⟨rfl, rfl⟩
theorem c_impl_State_lands (h m t : Int) (w : World) (hm : 0 ≤ m ∧ m < 1024) (ht : 0 ≤ t ∧ t ≤ 10) :
    Calls Try.prog 133 #[.agg #[.int .i64 h, .int .i64 m], .int .i64 t] w fun e w' => e = .returned (.bool (bitB m t)) ∧ Below w.heap.size w w' := by
  go_enter Try.func133, Try.ntmps133
  go_wp2
  go_ret
  exact ⟨by rw [bit_eq m _ hm]; rfl, by (repeat (first | (with_reducible assumption) | (with_reducible exact Below.refl _ _) | (with_reducible refine Below.setCell ?_ (by first | (simp; done) | (simp; omega)) _) | (with_reducible refine Below.al ?_ _) | (with_reducible refine Below.dr ?_) | (with_reducible refine Below.drN ?_ _) | (with_reducible refine Below.tr ?_ (by with_reducible assumption))))⟩
theorem c_impl_State_can (h m t : Int) (w : World) (hh : h ≤ 10) (hm : 0 ≤ m ∧ m < 1024) :
    Calls Try.prog 103 #[.agg #[.int .i64 h, .int .i64 m], .int .i64 t] w fun e w' => e = .returned (.bool (canB h m t)) ∧ Below w.heap.size w w' := by
  by_cases h0 : t = 0
  · subst h0
    go_enter Try.func103, Try.ntmps103
    go_wp2_with (go_at_call 133; refine (c_impl_State_lands _ _ _ _ hm (by omega)).mono ?_; rintro e w1 ⟨rfl, hb⟩; obtain ⟨hc, hf⟩ := bcell hb)
    go_ret
    exact ⟨rfl, by (repeat (first | (with_reducible assumption) | (with_reducible exact Below.refl _ _) | (with_reducible refine Below.setCell ?_ (by first | (simp; done) | (simp; omega)) _) | (with_reducible refine Below.al ?_ _) | (with_reducible refine Below.dr ?_) | (with_reducible refine Below.drN ?_ _) | (with_reducible refine Below.tr ?_ (by with_reducible assumption))))⟩
  · have H0 : (t == 0) = false := by simp [h0]
    cases h1 : inB t 1 h
    · go_enter Try.func103, Try.ntmps103
      go_wp2_with (go_at_call 62; refine (c_impl_between _ _ _ _).mono ?_; rintro e w1 ⟨rfl, rfl⟩)
      go_ret
      exact ⟨by simp [canB, H0, h1], by (repeat (first | (with_reducible assumption) | (with_reducible exact Below.refl _ _) | (with_reducible refine Below.setCell ?_ (by first | (simp; done) | (simp; omega)) _) | (with_reducible refine Below.al ?_ _) | (with_reducible refine Below.dr ?_) | (with_reducible refine Below.drN ?_ _) | (with_reducible refine Below.tr ?_ (by with_reducible assumption))))⟩
    · have ht : 1 ≤ t ∧ t ≤ h := inB_iff.1 h1
      cases h2 : bitB m 0
      all_goals
        go_enter Try.func103, Try.ntmps103
        go_wp2_with (first | (go_at_call 62; refine (c_impl_between _ _ _ _).mono ?_; rintro e w1 ⟨rfl, rfl⟩) | (go_at_call 133; refine (c_impl_State_lands _ _ _ _ hm (by omega)).mono ?_; rintro e w1 ⟨rfl, hb⟩; obtain ⟨hc, hf⟩ := bcell hb))
        go_ret
        exact ⟨by simp [canB, H0, h1, h2], by (repeat (first | (with_reducible assumption) | (with_reducible exact Below.refl _ _) | (with_reducible refine Below.setCell ?_ (by first | (simp; done) | (simp; omega)) _) | (with_reducible refine Below.al ?_ _) | (with_reducible refine Below.dr ?_) | (with_reducible refine Below.drN ?_ _) | (with_reducible refine Below.tr ?_ (by with_reducible assumption))))⟩
theorem c_spec_l08Bit (m t : Int) (w : World) (hm : 0 ≤ m ∧ m < 1024) (ht : 0 ≤ t ∧ t ≤ 10) :
    Calls Try.prog 140 #[.int .i64 m, .int .i64 t] w fun e w' => e = .returned (.bool (bitB m t)) ∧ w = w' := by
  go_enter Try.func140, Try.ntmps140
  go_wp2
  go_ret
  exact ⟨by rw [bit_eq m _ hm]; rfl, rfl⟩
theorem c_spec_l08Can (h m t : Int) (w : World) (hh : h ≤ 10) (hm : 0 ≤ m ∧ m < 1024) :
    Calls Try.prog 134 #[.agg #[.int .i64 h, .int .i64 m], .int .i64 t] w fun e w' => e = .returned (.bool (canB h m t)) ∧ Below w.heap.size w w' := by
  by_cases h0 : t = 0
  · subst h0
    go_enter Try.func134, Try.ntmps134
    go_wp2_with (go_at_call 140; refine (c_spec_l08Bit _ _ _ hm (by omega)).mono ?_; rintro e w1 ⟨rfl, rfl⟩)
    go_ret
    exact ⟨rfl, by (repeat (first | (with_reducible assumption) | (with_reducible exact Below.refl _ _) | (with_reducible refine Below.setCell ?_ (by first | (simp; done) | (simp; omega)) _) | (with_reducible refine Below.al ?_ _) | (with_reducible refine Below.dr ?_) | (with_reducible refine Below.drN ?_ _) | (with_reducible refine Below.tr ?_ (by with_reducible assumption))))⟩
  · have H0 : (t == 0) = false := by simp [h0]
    cases h2 : bitB m 0
    · go_enter Try.func134, Try.ntmps134
      go_wp2_with (go_at_call 140; refine (c_spec_l08Bit _ _ _ hm (by omega)).mono ?_; rintro e w1 ⟨rfl, rfl⟩)
      go_ret
      exact ⟨by simp [canB, H0, h2], by (repeat (first | (with_reducible assumption) | (with_reducible exact Below.refl _ _) | (with_reducible refine Below.setCell ?_ (by first | (simp; done) | (simp; omega)) _) | (with_reducible refine Below.al ?_ _) | (with_reducible refine Below.dr ?_) | (with_reducible refine Below.drN ?_ _) | (with_reducible refine Below.tr ?_ (by with_reducible assumption))))⟩
    · cases h1 : inB t 1 h
      · go_enter Try.func134, Try.ntmps134
        go_wp2_with (first | (go_at_call 56; refine (c_spec_l00In _ _ _ _).mono ?_; rintro e w1 ⟨rfl, rfl⟩) | (go_at_call 140; refine (c_spec_l08Bit _ _ _ hm (by omega)).mono ?_; rintro e w1 ⟨rfl, rfl⟩))
        go_ret
        exact ⟨by simp [canB, H0, h1], by (repeat (first | (with_reducible assumption) | (with_reducible exact Below.refl _ _) | (with_reducible refine Below.setCell ?_ (by first | (simp; done) | (simp; omega)) _) | (with_reducible refine Below.al ?_ _) | (with_reducible refine Below.dr ?_) | (with_reducible refine Below.drN ?_ _) | (with_reducible refine Below.tr ?_ (by with_reducible assumption))))⟩
      · have ht : 1 ≤ t ∧ t ≤ h := inB_iff.1 h1
        go_enter Try.func134, Try.ntmps134
        go_wp2_with (first | (go_at_call 56; refine (c_spec_l00In _ _ _ _).mono ?_; rintro e w1 ⟨rfl, rfl⟩) | (go_at_call 140; refine (c_spec_l08Bit _ _ _ hm (by omega)).mono ?_; rintro e w1 ⟨rfl, rfl⟩))
        go_ret
        exact ⟨by simp [canB, H0, h1, h2], by (repeat (first | (with_reducible assumption) | (with_reducible exact Below.refl _ _) | (with_reducible refine Below.setCell ?_ (by first | (simp; done) | (simp; omega)) _) | (with_reducible refine Below.al ?_ _) | (with_reducible refine Below.dr ?_) | (with_reducible refine Below.drN ?_ _) | (with_reducible refine Below.tr ?_ (by with_reducible assumption))))⟩
end Go.Proofs.Ytgcmnpimkfmccaa
