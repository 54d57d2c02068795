/- Contracts on the distance of two states. -/
import Derived.Test.YtpcaaohdlcoplaaDist
import Derived.Test.YtpcaaohdlcoplaaKeep
namespace Go.Proofs.Ytpcaaohdlcoplaa
open Go.ChangeShapes Go.WideShapes Go.ChangeAt Go.RowKit
set_option linter.unusedVariables false
def linkB (h m h2 m2 : Int) : Bool := h == h2 && popI m == popI m2
def linkC (h m h2 m2 : Int) : Int := bif validB h m && validB h2 m2 then (bif linkB h m h2 m2 then 0 else 6) else 1
theorem linkC_ok {h m h2 m2 : Int} (hc : linkC h m h2 m2 = 0) : validB h m = true ∧ validB h2 m2 = true ∧ h = h2 ∧ popI m = popI m2 := by
  unfold linkC at hc
  cases h1 : validB h m <;> cases h3 : validB h2 m2 <;> rw [h1, h3] at hc <;> simp at hc
  cases h4 : linkB h m h2 m2
  · rw [h4] at hc; simp at hc
  · unfold linkB at h4
    rw [Bool.and_eq_true] at h4
    exact ⟨rfl, rfl, by simpa using h4.1, by simpa using h4.2⟩
set_option maxHeartbeats 1000000 in
set_option maxRecDepth 100000 in
theorem c_spec_l09Two (h m h2 m2 : Int) (w : World) :
    Calls Try.prog 56 #[.agg #[.int .i64 h, .int .i64 m], .agg #[.int .i64 h2, .int .i64 m2]] w fun e w' => e = .returned (.int .i64 (linkC h m h2 m2)) ∧ Below w.heap.size w w' := by
  cases hv : validB h m
  · go_enter Try.func56, Try.ntmps56
    go_wp2_with (go_at_call 61; refine (c_spec_l08Ok h m _).mono ?_; rintro e w1 ⟨rfl, hb⟩; obtain ⟨hc, hf⟩ := bcell hb)
    go_ret
    exact ⟨by simp [linkC, hv], by (repeat (first | (with_reducible assumption) | (with_reducible exact Below.refl _ _) | (with_reducible refine Below.setCell ?_ (by first | (simp; done) | (simp; omega)) _) | (with_reducible refine Below.al ?_ _) | (with_reducible refine Below.dr ?_) | (with_reducible refine Below.drN ?_ _) | (with_reducible refine Below.tr ?_ (by with_reducible assumption))))⟩
  · cases hv2 : validB h2 m2
    · go_enter Try.func56, Try.ntmps56
      go_wp2_with (go_at_call 61; refine (c_spec_l08Ok _ _ _).mono ?_; rintro e w1 ⟨rfl, hb⟩; obtain ⟨hc, hf⟩ := bcell hb)
      go_ret
      exact ⟨by simp [linkC, hv, hv2], by (repeat (first | (with_reducible assumption) | (with_reducible exact Below.refl _ _) | (with_reducible refine Below.setCell ?_ (by first | (simp; done) | (simp; omega)) _) | (with_reducible refine Below.al ?_ _) | (with_reducible refine Below.dr ?_) | (with_reducible refine Below.drN ?_ _) | (with_reducible refine Below.tr ?_ (by with_reducible assumption))))⟩
    · have hm := (valid_bd hv).2
      have hm2 := (valid_bd hv2).2
      obtain ⟨W0, hW0, k0, k1, k2, k3, B0⟩ := twoStates w 35 h m h2 m2
      have hcount := fun x w hx => c_spec_l08Count x w hx
      go_enter Try.func56, Try.ntmps56
      go_wp2_with fail
      rw [← hW0]
      refine (c_spec_l08Ok _ _ _).mono ?_; rintro e w1 ⟨rfl, hb1⟩
      rw [hv]
      have k0 := keepc hb1 k0
      have k1 := keepc hb1 k1
      have k2 := keepc hb1 k2
      have k3 := keepc hb1 k3
      go_wp2_with fail
      refine (c_spec_l08Ok _ _ _).mono ?_; rintro e w2 ⟨rfl, hb2⟩
      rw [hv2]
      have k0 := keepc hb2 k0
      have k1 := keepc hb2 k1
      have k2 := keepc hb2 k2
      have k3 := keepc hb2 k3
      have B2 : Below w.heap.size w w2 := (B0.tr hb1).tr hb2
      clear hcount hW0 hb1 hb2
      go_wp2_with fail
      by_cases hh : h = h2
      · have th : (h != h2) = false := by simp [hh]
        have th2 : (h == h2) = true := by simp [hh]
        cases hp : (popI m == popI m2)
        · have tp : (popI m != popI m2) = true := by simpa using hp
          have HL : Hid (linkC h m h2 m2 = 6) := by unfold Hid linkC linkB; rw [hv, hv2, hp, th2]; rfl
          clear hp th2
          go_region_held3 (fun w' => w'.cell? ⟨w.heap.size, 0, none⟩ = some (.int .i64 h) ∧ w'.cell? ⟨w.heap.size, 1, none⟩ = some (.int .i64 m) ∧ w'.cell? ⟨w.heap.size + 1, 0, none⟩ = some (.int .i64 h2) ∧ w'.cell? ⟨w.heap.size + 1, 1, none⟩ = some (.int .i64 m2))
            (go_keep)
            (first
              | ((go_at_call 60; refine (c_spec_l08Count _ _ (by assumption)).mono ?_; rintro e w3 ⟨rfl, rfl⟩)))
          go_wp2
          go_ret
          exact ⟨by rw [HL.out]; rfl, by (repeat (first | (with_reducible assumption) | (with_reducible exact Below.refl _ _) | (with_reducible refine Below.setCell ?_ (by first | (simp; done) | (simp; omega)) _) | (with_reducible refine Below.al ?_ _) | (with_reducible refine Below.dr ?_) | (with_reducible refine Below.drN ?_ _) | (with_reducible refine Below.tr ?_ (by with_reducible assumption))))⟩
        · have tp : (popI m != popI m2) = false := by simpa using hp
          have HL : Hid (linkC h m h2 m2 = 0) := by unfold Hid linkC linkB; rw [hv, hv2, hp, th2]; rfl
          clear hp th2
          go_region_held3 (fun w' => w'.cell? ⟨w.heap.size, 0, none⟩ = some (.int .i64 h) ∧ w'.cell? ⟨w.heap.size, 1, none⟩ = some (.int .i64 m) ∧ w'.cell? ⟨w.heap.size + 1, 0, none⟩ = some (.int .i64 h2) ∧ w'.cell? ⟨w.heap.size + 1, 1, none⟩ = some (.int .i64 m2))
            (go_keep)
            (first
              | ((go_at_call 60; refine (c_spec_l08Count _ _ (by assumption)).mono ?_; rintro e w3 ⟨rfl, rfl⟩)))
          go_wp2
          go_ret
          exact ⟨by rw [HL.out]; rfl, by (repeat (first | (with_reducible assumption) | (with_reducible exact Below.refl _ _) | (with_reducible refine Below.setCell ?_ (by first | (simp; done) | (simp; omega)) _) | (with_reducible refine Below.al ?_ _) | (with_reducible refine Below.dr ?_) | (with_reducible refine Below.drN ?_ _) | (with_reducible refine Below.tr ?_ (by with_reducible assumption))))⟩
      · have th : (h != h2) = true := by simp [hh]
        have HL : Hid (linkC h m h2 m2 = 6) := by
          have th2 : (h == h2) = false := by simp [hh]
          unfold Hid linkC linkB
          rw [hv, hv2, th2]; rfl
        go_region
        all_goals
          go_wp2
          go_ret
          exact ⟨by rw [HL.out]; rfl, by (repeat (first | (with_reducible assumption) | (with_reducible exact Below.refl _ _) | (with_reducible refine Below.setCell ?_ (by first | (simp; done) | (simp; omega)) _) | (with_reducible refine Below.al ?_ _) | (with_reducible refine Below.dr ?_) | (with_reducible refine Below.drN ?_ _) | (with_reducible refine Below.tr ?_ (by with_reducible assumption))))⟩
end Go.Proofs.Ytpcaaohdlcoplaa
