/- Contracts of ShortestTour, the program's and the reference's. -/
import Derived.Test.YtjjghmmpfnlpaaaTourI
namespace Go.Proofs.Ytjjghmmpfnlpaaa
open Go.ChangeShapes Go.WideShapes Go.ChangeAt Go.RowKit
set_option linter.unusedSimpArgs false
set_option linter.unusedVariables false
noncomputable def stO (X : List (List Int)) (h : Int) : List Int := if someC X h = 0 then bstO (tourO (tabD X h) X.length) else []
noncomputable def stL (X : List (List Int)) (h : Int) : Int := if someC X h = 0 then lstO 0 (tourO (tabD X h) X.length) else 0
theorem some_three {X : List (List Int)} {h : Int} (hc : tabC X h = 0) (hl : X.length = 0) : someC X h = 3 := by unfold someC; rw [if_pos hc, if_pos hl]
theorem some_zero {X : List (List Int)} {h : Int} (hc : tabC X h = 0) (hl : X.length ≠ 0) : someC X h = 0 := by unfold someC; rw [if_pos hc, if_neg hl]
theorem some_tab {X : List (List Int)} {h : Int} (hc : ¬ tabC X h = 0) : someC X h = tabC X h := by unfold someC; rw [if_neg hc]
theorem stO_zero {X : List (List Int)} {h : Int} (hs : someC X h = 0) : stO X h = bstO (tourO (tabD X h) X.length) ∧ stL X h = lstO 0 (tourO (tabD X h) X.length) := by unfold stO stL; rw [if_pos hs, if_pos hs]; exact ⟨rfl, rfl⟩
theorem stO_not {X : List (List Int)} {h : Int} (hs : ¬ someC X h = 0) : stO X h = [] ∧ stL X h = 0 := by unfold stO stL; rw [if_neg hs, if_neg hs]; exact ⟨rfl, rfl⟩
theorem some_okT {X : List (List Int)} {h : Int} (hs : someC X h = 0) : tabC X h = 0 ∧ X.length ≠ 0 := by
  by_cases hc : tabC X h = 0
  · by_cases hl : X.length = 0
    · rw [some_three hc hl] at hs; cases hs
    · exact ⟨hc, hl⟩
  · rw [some_tab hc] at hs; exact absurd hs hc
theorem stO_len (X : List (List Int)) (h : Int) : (stO X h).length ≤ 1000000 := by
  by_cases hs : someC X h = 0
  · obtain ⟨hc, hl⟩ := some_okT hs
    obtain ⟨q, hq, -, hql, -⟩ := tour_some (D := tabD X h) (n := X.length) ⟨by omega, (tab_ok hc).2.1⟩ (tab_far hc)
    rw [(stO_zero hs).1, hq]
    show q.1.length ≤ _
    have := (tab_ok hc).2.1
    omega
  · rw [(stO_not hs).1]; simp
theorem c_impl_ShortestTour (X : List (List Int)) (h : Int) (v : Value) (w : World) (hr : RdG w v X) :
    Calls Try.prog 22 #[v, .int .i64 h] w fun e w' => ∃ r, e = .returned (.tuple #[r, .int .i64 (stL X h), .int .i64 (someC X h)]) ∧ OwnI1 w.heap.size w' r (stO X h) ∧ Below w.heap.size w w' := by
  have HR := Lib.hid hr
  clear hr
  cases hc : (someC X h != 0)
  · have hc0 : someC X h = 0 := by simpa using hc
    have HX := Lib.hid (stO_zero hc0)
    have HC := Lib.hid hc0
    have HK := Lib.hid (some_okT hc0)
    clear hc0
    go_enter Try.func22, Try.ntmps22
    go_wp2_with fail
    refine (c_impl_someCode X h _ _ HR.out).mono ?_; rintro e w1 ⟨rfl, hb1⟩
    go_wp2_with fail
    refine (c_impl_tour X h _ _ (HR.out.below hb1) HK.out.1 (by have := HK.out.2; omega)).mono ?_; rintro e w2 ⟨u2, rfl, ho2, -, hb2⟩
    have hs1 := hb1.size
    go_wp2
    go_ret3
    exact ⟨u2, by rw [HX.out.2, HC.out]; rfl, by rw [HX.out.1]; exact ho2.base hs1, hb1.tr hb2⟩
  · have hc0 : ¬ someC X h = 0 := by simpa using hc
    have HX := Lib.hid (stO_not hc0)
    clear hc0
    go_enter Try.func22, Try.ntmps22
    go_wp2_with fail
    refine (c_impl_someCode X h _ _ HR.out).mono ?_; rintro e w1 ⟨rfl, hb1⟩
    go_wp2
    go_ret3
    exact ⟨_, by rw [HX.out.2]; rfl, by rw [HX.out.1]; exact OwnI.nil _ rfl, hb1⟩
theorem c_spec_ShortestTour (X : List (List Int)) (h : Int) (v : Value) (w : World) (hr : RdG w v X) :
    Calls Try.prog 23 #[v, .int .i64 h] w fun e w' => ∃ r, e = .returned (.tuple #[r, .int .i64 (stL X h), .int .i64 (someC X h)]) ∧ OwnI1 w.heap.size w' r (stO X h) ∧ Below w.heap.size w w' := by
  have HR := Lib.hid hr
  obtain ⟨a1, cap1, rfl, -, -⟩ := hr
  cases hc : (tabC X h != 0)
  · have hct : tabC X h = 0 := by simpa using hc
    by_cases hlen : X.length = 0
    · have HS := Lib.hid (some_three hct hlen)
      have HX := Lib.hid (stO_not (X := X) (h := h) (by rw [HS.out]; decide))
      have hz : ((X.length : Int) == 0) = true := by simp [hlen]
      clear hct hlen
      go_enter Try.func23, Try.ntmps23
      go_wp2_with fail
      refine (c_spec_l23Code X h _ _ HR.out).mono ?_; rintro e w1 ⟨rfl, hb1⟩
      go_wp2
      go_ret3
      exact ⟨_, by rw [HX.out.2, HS.out]; rfl, by rw [HX.out.1]; exact OwnI.nil _ rfl, hb1⟩
    · have HS := Lib.hid (some_zero hct hlen)
      have HX := Lib.hid (stO_zero HS.out)
      have hz : ((X.length : Int) == 0) = false := by
        have : (X.length : Int) ≠ 0 := by omega
        simpa using this
      have HT := Lib.hid hct
      have HN : Hid (1 ≤ X.length ∧ X.length ≤ 8) := ⟨by omega, (tab_ok hct).2.1⟩
      clear hct hlen
      go_enter Try.func23, Try.ntmps23
      go_wp2_with fail
      refine (c_spec_l23Code X h _ _ HR.out).mono ?_; rintro e w1 ⟨rfl, hb1⟩
      go_wp2_with fail
      refine (c_spec_l23Table X h _ _ (HR.out.below hb1) HT.out).mono ?_; rintro e w2 ⟨u2, rfl, ho2, hb2⟩
      have ht := Lib.hid (tab_rd ho2.rd)
      have hs2 := (hb1.tr hb2).size
      go_wp2_with fail
      refine (c_spec_l23Tour X.length (tabD X h) _ _ ht.out HN.out (tab_far HT.out)).mono ?_; rintro e w3 ⟨u3, rfl, ho3, -, hb3⟩
      go_wp2
      go_ret3
      exact ⟨u3, by rw [HX.out.2, HS.out]; rfl, by rw [HX.out.1]; exact ho3.base hs2, (hb1.tr hb2).tr hb3⟩
  · have hc0 : ¬ tabC X h = 0 := by simpa using hc
    have HS := Lib.hid (some_tab hc0)
    have HX := Lib.hid (stO_not (X := X) (h := h) (by rw [HS.out]; exact hc0))
    clear hc0
    go_enter Try.func23, Try.ntmps23
    go_wp2_with fail
    refine (c_spec_l23Code X h _ _ HR.out).mono ?_; rintro e w1 ⟨rfl, hb1⟩
    go_wp2
    go_ret3
    exact ⟨_, by rw [HX.out.2, HS.out]; rfl, by rw [HX.out.1]; exact OwnI.nil _ rfl, hb1⟩
end Go.Proofs.Ytjjghmmpfnlpaaa
