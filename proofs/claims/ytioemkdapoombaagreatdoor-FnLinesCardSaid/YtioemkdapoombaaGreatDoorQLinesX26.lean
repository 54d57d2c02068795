/- The law LinesX: what it rests on, part 26 of 46. -/
import Derived.Test.YtioemkdapoombaaGreatDoorRows
import Derived.ProofKit
import Derived.OpenShut
import Derived.ChangeOld
import Derived.Lib.SmallJoins
import Derived.Laws.ResultCell
import Derived.Deep.Slices
import Derived.Test.YtioemkdapoombaaGreatDoorQLinesX01
import Derived.Test.YtioemkdapoombaaGreatDoorQLinesX03
import Derived.Test.YtioemkdapoombaaGreatDoorQLinesX06
import Derived.Test.YtioemkdapoombaaGreatDoorQLinesX12
import Derived.Test.YtioemkdapoombaaGreatDoorQLinesX15
import Derived.Test.YtioemkdapoombaaGreatDoorQLinesX17
namespace Go.Proofs.YtioemkdapoombaaGreatDoor
open Go.ChangeShapes Go.WideShapes Go.ChangeAt Go.RowKit
set_option linter.unusedVariables false
set_option linter.unusedSimpArgs false
def validPt (h : Int) (p : Part2) : Bool := validP p.1 && (decide (mxF 0 p.1 ≤ h) && inB p.2 1 20)
def headN (X : List Part2) : Int := propsP (X.getD 0 ([], 0)).1
def okPt (h n0 : Int) (p : Part2) : Bool := validPt h p && propsP p.1 == n0
def validR (h : Int) (X : List Part2) : Bool := inB h 1 10 && (inB (X.length : Int) 1 8 && X.all (okPt h (headN X)))
theorem all_step {α : Type} {f : α → Bool} {X : List α} {k : Nat} (hk : k < X.length) (h : (X.take k).all f = true) (hx : f X[k] = true) : (X.take (k + 1)).all f = true := by
  have e1 : X.take (k + 1) = X.take k ++ [X[k]] := by rw [List.take_add_one, List.getElem?_eq_getElem hk]; rfl
  rw [e1, List.all_append, h]
  simp [hx]
theorem all_not {α : Type} {f : α → Bool} {X : List α} {k : Nat} (hk : k < X.length) (hx : f X[k] = false) : X.all f = false := by
  rw [Bool.eq_false_iff]
  intro h
  have := List.all_eq_true.1 h X[k] (List.getElem_mem hk)
  rw [hx] at this
  cases this
theorem twoVals (w : World) (T : TypeId) (a b : Value) : ∃ W0, W0 = w.alloc (Obj.cells #[a, b] T) ∧ W0.cell? ⟨w.heap.size, 0, none⟩ = some a ∧ W0.cell? ⟨w.heap.size, 1, none⟩ = some b ∧ Below w.heap.size w W0 :=
  ⟨_, rfl, World.cell?_alloc_at _ _ _ _ rfl, World.cell?_alloc_at _ _ _ _ rfl, (Below.refl _ _).al _⟩
theorem c_spec_l19Part (p : List Int) (n h : Int) (v : Value) (b o : Nat) (w : World) (hr : RdI w v p) (k0 : w.cell? ⟨b, o, none⟩ = some v) (k1 : w.cell? ⟨b, o + 1, none⟩ = some (.int .i64 n)) :
    Calls Tryz.prog 87 #[.pointer (some ⟨b, o, none⟩), .int .i64 h] w fun e w' => e = .returned (.bool (validPt h (p, n))) ∧ Below w.heap.size w w' := by
  have hr' := hr
  obtain ⟨a1, cap1, rfl, -, -⟩ := hr'
  cases hv : validP p
  · have HN : Hid (validPt h (p, n) = false) := by unfold Hid validPt; rw [hv]; rfl
    go_enter Tryz.func87, Tryz.ntmps87
    go_wp2_with fail
    refine (c_spec_l02Ok p _ _ hr).mono ?_; rintro e w1 ⟨rfl, hb1⟩; rw [hv]
    go_wp2
    go_ret
    exact ⟨by rw [HN.out]; rfl, hb1⟩
  · by_cases hm : mxF 0 p ≤ h
    · have HN : Hid (validPt h (p, n) = inB n 1 20) := by unfold Hid validPt; rw [hv, decide_eq_true hm]; rfl
      go_enter Tryz.func87, Tryz.ntmps87
      go_wp2_with fail
      refine (c_spec_l02Ok p _ _ hr).mono ?_; rintro e w1 ⟨rfl, hb1⟩; rw [hv]
      have k0 := keepc hb1 k0
      have k1 := keepc hb1 k1
      go_wp2_with fail
      refine (c_spec_l02High p _ _ (hr.below hb1)).mono ?_; rintro e w2 ⟨rfl, rfl⟩
      generalize mxF 0 p = mx at *
      go_wp2_with (go_at_call 66; refine (c_spec_l00In _ _ _ _).mono ?_; rintro e w1 ⟨rfl, rfl⟩)
      go_ret
      exact ⟨by rw [HN.out]; rfl, hb1⟩
    · have HN : Hid (validPt h (p, n) = false) := by unfold Hid validPt; rw [hv, decide_eq_false hm]; rfl
      go_enter Tryz.func87, Tryz.ntmps87
      go_wp2_with fail
      refine (c_spec_l02Ok p _ _ hr).mono ?_; rintro e w1 ⟨rfl, hb1⟩; rw [hv]
      have k0 := keepc hb1 k0
      have k1 := keepc hb1 k1
      go_wp2_with fail
      refine (c_spec_l02High p _ _ (hr.below hb1)).mono ?_; rintro e w2 ⟨rfl, rfl⟩
      generalize mxF 0 p = mx at *
      go_wp2
      go_ret
      exact ⟨by rw [HN.out]; rfl, hb1⟩
end Go.Proofs.YtioemkdapoombaaGreatDoor
namespace Go.Proofs.YtioemkdapoombaaGreatDoor
open Go.ChangeShapes Go.WideShapes Go.ChangeAt Go.RowKit
set_option linter.unusedVariables false
set_option linter.unusedSimpArgs false
theorem validPt_ok {h : Int} {p : Part2} (hv : validPt h p = true) : validP p.1 = true := by
  unfold validPt at hv
  simp at hv
  exact hv.1
theorem head_get {X : List Part2} (h0 : 0 < X.length) : headN X = propsP X[0].1 := by
  unfold headN
  simp [List.getD, h0]
theorem first_ok {h : Int} {X : List Part2} {k : Nat} (h0 : 0 < X.length) (hk : k < X.length) (ha : (X.take k).all (okPt h (headN X)) = true) (hv : validPt h X[k] = true) : validP X[0].1 = true := by
  by_cases e : k = 0
  · subst e; exact validPt_ok hv
  · have hm : X[0] ∈ X.take k := by
      have h1 : 0 < (X.take k).length := by rw [List.length_take]; omega
      have h2 : (X.take k)[0] = X[0] := by simp
      rw [← h2]; exact List.getElem_mem h1
    have := List.all_eq_true.1 ha _ hm
    unfold okPt at this
    simp at this
    exact validPt_ok this.1
theorem validR_not1 {h : Int} {X : List Part2} (hh : inB h 1 10 = false) : validR h X = false := by unfold validR; rw [hh]; rfl
theorem validR_not2 {h : Int} {X : List Part2} (hh : inB (X.length : Int) 1 8 = false) : validR h X = false := by unfold validR; rw [hh]; simp
theorem validR_not3 {h : Int} {X : List Part2} {k : Nat} (hk : k < X.length) (hx : okPt h (headN X) X[k] = false) : validR h X = false := by unfold validR; rw [all_not hk hx]; simp
set_option maxHeartbeats 16000000 in
set_option maxRecDepth 100000 in
theorem c_spec_l19Ok (X : List Part2) (h : Int) (v : Value) (g : Nat) (w : World) (hr : RdP w v X) (k0 : w.cell? ⟨g, 0, none⟩ = some (.int .i64 h)) (k1 : w.cell? ⟨g, 1, none⟩ = some v) :
    Calls Tryz.prog 49 #[.pointer (some ⟨g, 0, none⟩)] w fun e w' => e = .returned (.bool (validR h X)) ∧ Below w.heap.size w w' := by
  have hr' := hr
  obtain ⟨a1, cap1, rfl, hl1, -⟩ := hr'
  have HH := Lib.hid hr
  clear hr
  cases hh : inB h 1 10
  · have HN := Lib.hid (validR_not1 (X := X) hh)
    go_enter Tryz.func49, Tryz.ntmps49
    go_wp2_with (go_at_call 69; refine (c_spec_l08Height _ _).mono ?_; rintro e w1 ⟨rfl, rfl⟩)
    go_ret
    exact ⟨by rw [HN.out]; rfl, Below.refl _ _⟩
  · cases hn : inB (X.length : Int) 1 8
    · have HN := Lib.hid (validR_not2 (h := h) hn)
      go_enter Tryz.func49, Tryz.ntmps49
      go_wp2_with (first | (go_at_call 69; refine (c_spec_l08Height _ _).mono ?_; rintro e w1 ⟨rfl, rfl⟩) | (go_at_call 66; refine (c_spec_l00In _ _ _ _).mono ?_; rintro e w1 ⟨rfl, rfl⟩))
      go_ret
      exact ⟨by rw [HN.out]; rfl, Below.refl _ _⟩
    · have h0 : 0 < X.length := by have := inB_iff.1 hn; omega
      have HH1 := Lib.hid hh
      have HN1 := Lib.hid hn
      go_enter Tryz.func49, Tryz.ntmps49
      go_wp2_with (first | (go_at_call 69; refine (c_spec_l08Height _ _).mono ?_; rintro e w1 ⟨rfl, rfl⟩) | (go_at_call 66; refine (c_spec_l00In _ _ _ _).mono ?_; rintro e w1 ⟨rfl, rfl⟩))
      clear hh hn
      go_loopw [3] (fun i wr => ∃ k : Nat, k ≤ X.length ∧ i = .int .i64 k ∧ Hid ((X.take k).all (okPt h (headN X)) = true) ∧ Below w.heap.size w wr) (fun i _ => X.length - (intOf i).toNat)
      case atStart => exact ⟨0, by omega, rfl, rfl, Below.refl _ _⟩
      case round =>
        obtain ⟨k, hk, rfl, HA, hb⟩ := hrel
        have k0 := keepc hb k0
        have k1 := keepc hb k1
        by_cases hlt : k < X.length
        · obtain ⟨a', cap', he, -, hc⟩ := HH.out
          cases he
          obtain ⟨b1, o1, u, rfl, x0, x1, hu⟩ := hc k hlt
          obtain ⟨b2, o2, u2, he, y0, -, hu2⟩ := hc 0 h0
          cases he
          clear hc
          have x0 := keepc hb x0
          have x1 := keepc hb x1
          have y0 := keepc hb y0
          have y0 : wr.cell? ⟨b1, o1, none⟩ = some u2 := by simpa using y0
          have hu := hu.below hb
          have hu2 := hu2.below hb
          have HHD := Lib.hid (head_get h0)
          have HFO := Lib.hid (fun hv => first_ok h0 hlt HA.out hv)
          have HST := Lib.hid (fun hx => all_step hlt HA.out hx)
          have HNO := Lib.hid (fun hx => validR_not3 (h := h) hlt hx)
          have hin0 : (0 : Int) ≤ (k : Int) := Int.natCast_nonneg _
          have hin1 : (k : Int) < (X.length : Int) := by omega
          have hin2 : (0 : Int) < (X.length : Int) := by omega
          obtain ⟨q, Hq⟩ : ∃ q, Hid (X[0].1 = q) := ⟨X[0].1, Lib.hid rfl⟩
          obtain ⟨pt, Hpt⟩ : ∃ q, Hid (X[k] = q) := ⟨X[k], Lib.hid rfl⟩
          obtain ⟨p, n⟩ := pt
          rw [Hpt.out] at x1 hu HFO HST HNO
          rw [Hq.out] at hu2 HFO HHD
          dsimp only at x1 hu
          rw [HHD.out] at HST HNO
          cases hv : validPt h (p, n)
          · have HN : Hid (validR h X = false) := HNO.out (by unfold okPt; rw [hv]; rfl)
            go_wp2_with fail
            refine wp_region_noPanic ?_
            refine wp_region_held_drew (S := fun w' => w'.cell? ⟨g, 0, none⟩ = some (.int .i64 h) ∧ w'.cell? ⟨g, 1, none⟩ = some (.slice (some ⟨b1, o1, none⟩) X.length cap1) ∧ w'.cell? ⟨b1, o1 + k * 2, none⟩ = some u ∧ w'.cell? ⟨b1, o1, none⟩ = some u2) (by kernel_rfl) ?_ (fun hHeld => ?_)
            · exact ⟨k0, k1, x0, y0⟩
            (refine wpAnyH_take (i := 0) (v := ?tv1) rfl (by kernel_rfl) (by kernel_rfl) (by kernel_rfl) (fun _ _ _ h => h) (Or.inl ⟨by rfl, ?thy1⟩) (by assumption) ?trest1; case thy1 => (intro w hSw; (try dsimp only at hSw); go_simp; (try with_reducible rfl)); (try simp only [Act.put, List.getElem_toArray, List.getElem_cons_zero, List.getElem_cons_succ, List.setIfInBounds_toArray, List.set_cons_zero, List.set_cons_succ])); (refine wpAnyH_take (i := 1) (v := ?tv2) rfl (by kernel_rfl) (by kernel_rfl) (by kernel_rfl) (fun _ _ _ h => h) (Or.inl ⟨by rfl, ?thy2⟩) (by assumption) ?trest2; case thy2 => (intro w hSw; (try dsimp only at hSw); go_simp; (try with_reducible rfl)); (try simp only [Act.put, List.getElem_toArray, List.getElem_cons_zero, List.getElem_cons_succ, List.setIfInBounds_toArray, List.set_cons_zero, List.set_cons_succ])); (refine wpAnyH_take (i := 2) (v := ?tv3) rfl (by kernel_rfl) (by kernel_rfl) (by kernel_rfl) (fun _ _ _ h => h) (Or.inl ⟨by rfl, ?thy3⟩) (by assumption) ?trest3; case thy3 => (intro w hSw; (try dsimp only at hSw); go_simp; (try with_reducible rfl)); (try simp only [Act.put, List.getElem_toArray, List.getElem_cons_zero, List.getElem_cons_succ, List.setIfInBounds_toArray, List.set_cons_zero, List.set_cons_succ])); (refine wpAnyH_take (i := 3) (v := ?tv4) rfl (by kernel_rfl) (by kernel_rfl) (by kernel_rfl) (fun _ _ _ h => h) (Or.inl ⟨by rfl, ?thy4⟩) (by assumption) ?trest4; case thy4 => (intro w hSw; (try dsimp only at hSw); go_simp; (try with_reducible rfl)); (try simp only [Act.put, List.getElem_toArray, List.getElem_cons_zero, List.getElem_cons_succ, List.setIfInBounds_toArray, List.set_cons_zero, List.set_cons_succ])); (refine wpAnyH_take (i := 4) (v := ?tv5) rfl (by kernel_rfl) (by kernel_rfl) (by kernel_rfl) (fun _ _ _ h => h) (Or.inl ⟨by rfl, ?thy5⟩) (by assumption) ?trest5; case thy5 => (intro w hSw; (try dsimp only at hSw); go_simp; (try with_reducible rfl)); (try simp only [Act.put, List.getElem_toArray, List.getElem_cons_zero, List.getElem_cons_succ, List.setIfInBounds_toArray, List.set_cons_zero, List.set_cons_succ])); (refine wpAnyH_take (i := 5) (v := ?tv6) rfl (by kernel_rfl) (by kernel_rfl) (by kernel_rfl) (fun _ _ _ h => h) (Or.inl ⟨by rfl, ?thy6⟩) (by assumption) ?trest6; case thy6 => (intro w hSw; (try dsimp only at hSw); go_simp; (try with_reducible rfl)); (try simp only [Act.put, List.getElem_toArray, List.getElem_cons_zero, List.getElem_cons_succ, List.setIfInBounds_toArray, List.set_cons_zero, List.set_cons_succ])); (refine wpAnyH_take (i := 6) (v := ?tv7) rfl (by kernel_rfl) (by kernel_rfl) (by kernel_rfl) (fun _ _ _ h => h) (Or.inl ⟨by rfl, ?thy7⟩) (by assumption) ?trest7; case thy7 => (intro w hSw; (try dsimp only at hSw); go_simp; (try with_reducible rfl)); (try simp only [Act.put, List.getElem_toArray, List.getElem_cons_zero, List.getElem_cons_succ, List.setIfInBounds_toArray, List.set_cons_zero, List.set_cons_succ])); (refine wpAnyH_take (i := 7) (v := ?tv8) rfl (by kernel_rfl) (by kernel_rfl) (by kernel_rfl) (fun _ _ _ h => h) (Or.inl ⟨by rfl, ?thy8⟩) (by assumption) ?trest8; case thy8 => (intro w hSw; (try dsimp only at hSw); go_simp; (try with_reducible rfl)); (try simp only [Act.put, List.getElem_toArray, List.getElem_cons_zero, List.getElem_cons_succ, List.setIfInBounds_toArray, List.set_cons_zero, List.set_cons_succ])); (refine wpAnyH_take (i := 8) (v := ?tv9) rfl (by kernel_rfl) (by kernel_rfl) (by kernel_rfl) (fun _ _ _ h => h) (Or.inl ⟨by rfl, ?thy9⟩) (by assumption) ?trest9; case thy9 => (intro w hSw; (try dsimp only at hSw); go_simp; (try with_reducible rfl)); (try simp only [Act.put, List.getElem_toArray, List.getElem_cons_zero, List.getElem_cons_succ, List.setIfInBounds_toArray, List.set_cons_zero, List.set_cons_succ])); (refine wpAnyH_take (i := 9) (v := ?tv10) rfl (by kernel_rfl) (by kernel_rfl) (by kernel_rfl) (fun _ _ _ h => h) (Or.inl ⟨by rfl, ?thy10⟩) (by assumption) ?trest10; case thy10 => (intro w hSw; (try dsimp only at hSw); go_simp; (try with_reducible rfl)); (try simp only [Act.put, List.getElem_toArray, List.getElem_cons_zero, List.getElem_cons_succ, List.setIfInBounds_toArray, List.set_cons_zero, List.set_cons_succ]))
            refine wpAnyH_ready (rs := [10]) (by kernel_rfl) (by simp) ?_; refine AllReadyH.cons (i := 10) rfl (fun K hK => ?_) AllReadyH.nil
            go_simp
            refine (c_spec_l19Part p n h u b1 (o1 + k * 2) _ (hu.below ((Below.refl _ _).dr)) x0 x1).mono ?_; rintro e w4 ⟨rfl, hb4⟩; rw [hv]
            have hb4' := below_drew hb4
            refine hK.out _ _ ⟨keepc hb4' k0, keepc hb4' k1, keepc hb4' x0, keepc hb4' y0⟩ (fun hHeld => ?_)
            clear hK K
            (try simp only [Act.put, List.getElem_toArray, List.getElem_cons_zero, List.getElem_cons_succ, List.setIfInBounds_toArray, List.set_cons_zero, List.set_cons_succ])
            (refine wpAnyH_take (i := 11) (v := ?tv11) rfl (by kernel_rfl) (by kernel_rfl) (by kernel_rfl) (fun _ _ _ h => h) (Or.inl ⟨by rfl, ?thy11⟩) (by assumption) ?trest11; case thy11 => (intro w hSw; (try dsimp only at hSw); go_simp; (try with_reducible rfl)); (try simp only [Act.put, List.getElem_toArray, List.getElem_cons_zero, List.getElem_cons_succ, List.setIfInBounds_toArray, List.set_cons_zero, List.set_cons_succ])); (refine wpAnyH_take (i := 12) (v := ?tv12) rfl (by kernel_rfl) (by kernel_rfl) (by kernel_rfl) (fun _ _ _ h => h) (Or.inl ⟨by rfl, ?thy12⟩) (by assumption) ?trest12; case thy12 => (intro w hSw; (try dsimp only at hSw); go_simp; (try with_reducible rfl)); (try simp only [Act.put, List.getElem_toArray, List.getElem_cons_zero, List.getElem_cons_succ, List.setIfInBounds_toArray, List.set_cons_zero, List.set_cons_succ]))
            (refine wpAnyH_take (i := 13) (v := undef) rfl (by kernel_rfl) (by kernel_rfl) (by kernel_rfl) (fun _ _ _ h => h) (Or.inr ⟨by kernel_rfl, rfl⟩) (by assumption) ?trest13); (try simp only [Act.put, List.getElem_toArray, List.getElem_cons_zero, List.getElem_cons_succ, List.setIfInBounds_toArray, List.set_cons_zero, List.set_cons_succ]); (refine wpAnyH_take (i := 14) (v := undef) rfl (by kernel_rfl) (by kernel_rfl) (by kernel_rfl) (fun _ _ _ h => h) (Or.inr ⟨by kernel_rfl, rfl⟩) (by assumption) ?trest14); (try simp only [Act.put, List.getElem_toArray, List.getElem_cons_zero, List.getElem_cons_succ, List.setIfInBounds_toArray, List.set_cons_zero, List.set_cons_succ]); (refine wpAnyH_take (i := 15) (v := undef) rfl (by kernel_rfl) (by kernel_rfl) (by kernel_rfl) (fun _ _ _ h => h) (Or.inr ⟨by kernel_rfl, rfl⟩) (by assumption) ?trest15); (try simp only [Act.put, List.getElem_toArray, List.getElem_cons_zero, List.getElem_cons_succ, List.setIfInBounds_toArray, List.set_cons_zero, List.set_cons_succ]); (refine wpAnyH_take (i := 16) (v := undef) rfl (by kernel_rfl) (by kernel_rfl) (by kernel_rfl) (fun _ _ _ h => h) (Or.inr ⟨by kernel_rfl, rfl⟩) (by assumption) ?trest16); (try simp only [Act.put, List.getElem_toArray, List.getElem_cons_zero, List.getElem_cons_succ, List.setIfInBounds_toArray, List.set_cons_zero, List.set_cons_succ]); (refine wpAnyH_take (i := 17) (v := undef) rfl (by kernel_rfl) (by kernel_rfl) (by kernel_rfl) (fun _ _ _ h => h) (Or.inr ⟨by kernel_rfl, rfl⟩) (by assumption) ?trest17); (try simp only [Act.put, List.getElem_toArray, List.getElem_cons_zero, List.getElem_cons_succ, List.setIfInBounds_toArray, List.set_cons_zero, List.set_cons_succ]); (refine wpAnyH_take (i := 18) (v := undef) rfl (by kernel_rfl) (by kernel_rfl) (by kernel_rfl) (fun _ _ _ h => h) (Or.inr ⟨by kernel_rfl, rfl⟩) (by assumption) ?trest18); (try simp only [Act.put, List.getElem_toArray, List.getElem_cons_zero, List.getElem_cons_succ, List.setIfInBounds_toArray, List.set_cons_zero, List.set_cons_succ]); (refine wpAnyH_take (i := 19) (v := undef) rfl (by kernel_rfl) (by kernel_rfl) (by kernel_rfl) (fun _ _ _ h => h) (Or.inr ⟨by kernel_rfl, rfl⟩) (by assumption) ?trest19); (try simp only [Act.put, List.getElem_toArray, List.getElem_cons_zero, List.getElem_cons_succ, List.setIfInBounds_toArray, List.set_cons_zero, List.set_cons_succ]); (refine wpAnyH_take (i := 20) (v := undef) rfl (by kernel_rfl) (by kernel_rfl) (by kernel_rfl) (fun _ _ _ h => h) (Or.inr ⟨by kernel_rfl, rfl⟩) (by assumption) ?trest20); (try simp only [Act.put, List.getElem_toArray, List.getElem_cons_zero, List.getElem_cons_succ, List.setIfInBounds_toArray, List.set_cons_zero, List.set_cons_succ]); (refine wpAnyH_take (i := 21) (v := undef) rfl (by kernel_rfl) (by kernel_rfl) (by kernel_rfl) (fun _ _ _ h => h) (Or.inr ⟨by kernel_rfl, rfl⟩) (by assumption) ?trest21); (try simp only [Act.put, List.getElem_toArray, List.getElem_cons_zero, List.getElem_cons_succ, List.setIfInBounds_toArray, List.set_cons_zero, List.set_cons_succ]); (refine wpAnyH_take (i := 22) (v := undef) rfl (by kernel_rfl) (by kernel_rfl) (by kernel_rfl) (fun _ _ _ h => h) (Or.inr ⟨by kernel_rfl, rfl⟩) (by assumption) ?trest22); (try simp only [Act.put, List.getElem_toArray, List.getElem_cons_zero, List.getElem_cons_succ, List.setIfInBounds_toArray, List.set_cons_zero, List.set_cons_succ]); (refine wpAnyH_take (i := 23) (v := undef) rfl (by kernel_rfl) (by kernel_rfl) (by kernel_rfl) (fun _ _ _ h => h) (Or.inr ⟨by kernel_rfl, rfl⟩) (by assumption) ?trest23); (try simp only [Act.put, List.getElem_toArray, List.getElem_cons_zero, List.getElem_cons_succ, List.setIfInBounds_toArray, List.set_cons_zero, List.set_cons_succ]); (refine wpAnyH_take (i := 24) (v := undef) rfl (by kernel_rfl) (by kernel_rfl) (by kernel_rfl) (fun _ _ _ h => h) (Or.inr ⟨by kernel_rfl, rfl⟩) (by assumption) ?trest24); (try simp only [Act.put, List.getElem_toArray, List.getElem_cons_zero, List.getElem_cons_succ, List.setIfInBounds_toArray, List.set_cons_zero, List.set_cons_succ]); (refine wpAnyH_take (i := 25) (v := undef) rfl (by kernel_rfl) (by kernel_rfl) (by kernel_rfl) (fun _ _ _ h => h) (Or.inr ⟨by kernel_rfl, rfl⟩) (by assumption) ?trest25); (try simp only [Act.put, List.getElem_toArray, List.getElem_cons_zero, List.getElem_cons_succ, List.setIfInBounds_toArray, List.set_cons_zero, List.set_cons_succ]); (refine wpAnyH_take (i := 26) (v := undef) rfl (by kernel_rfl) (by kernel_rfl) (by kernel_rfl) (fun _ _ _ h => h) (Or.inr ⟨by kernel_rfl, rfl⟩) (by assumption) ?trest26); (try simp only [Act.put, List.getElem_toArray, List.getElem_cons_zero, List.getElem_cons_succ, List.setIfInBounds_toArray, List.set_cons_zero, List.set_cons_succ]); (refine wpAnyH_take (i := 27) (v := undef) rfl (by kernel_rfl) (by kernel_rfl) (by kernel_rfl) (fun _ _ _ h => h) (Or.inr ⟨by kernel_rfl, rfl⟩) (by assumption) ?trest27); (try simp only [Act.put, List.getElem_toArray, List.getElem_cons_zero, List.getElem_cons_succ, List.setIfInBounds_toArray, List.set_cons_zero, List.set_cons_succ]); (refine wpAnyH_take (i := 28) (v := undef) rfl (by kernel_rfl) (by kernel_rfl) (by kernel_rfl) (fun _ _ _ h => h) (Or.inr ⟨by kernel_rfl, rfl⟩) (by assumption) ?trest28); (try simp only [Act.put, List.getElem_toArray, List.getElem_cons_zero, List.getElem_cons_succ, List.setIfInBounds_toArray, List.set_cons_zero, List.set_cons_succ]); (refine wpAnyH_take (i := 29) (v := undef) rfl (by kernel_rfl) (by kernel_rfl) (by kernel_rfl) (fun _ _ _ h => h) (Or.inr ⟨by kernel_rfl, rfl⟩) (by assumption) ?trest29); (try simp only [Act.put, List.getElem_toArray, List.getElem_cons_zero, List.getElem_cons_succ, List.setIfInBounds_toArray, List.set_cons_zero, List.set_cons_succ]); (refine wpAnyH_take (i := 30) (v := undef) rfl (by kernel_rfl) (by kernel_rfl) (by kernel_rfl) (fun _ _ _ h => h) (Or.inr ⟨by kernel_rfl, rfl⟩) (by assumption) ?trest30); (try simp only [Act.put, List.getElem_toArray, List.getElem_cons_zero, List.getElem_cons_succ, List.setIfInBounds_toArray, List.set_cons_zero, List.set_cons_succ])
            (refine wpAnyH_take (i := 31) (v := ?tv31) rfl (by kernel_rfl) (by kernel_rfl) (by kernel_rfl) (fun _ _ _ h => h) (Or.inl ⟨by rfl, ?thy31⟩) (by assumption) ?trest31; case thy31 => (intro w hSw; (try dsimp only at hSw); go_simp; (try with_reducible rfl)); (try simp only [Act.put, List.getElem_toArray, List.getElem_cons_zero, List.getElem_cons_succ, List.setIfInBounds_toArray, List.set_cons_zero, List.set_cons_succ]))
            refine wpAnyH_done (by kernel_rfl) ?_ _
            refine NoPanic.normal ?_
            go_wp2
            go_ret
            exact ⟨by rw [HN.out]; rfl, hb.tr hb4'⟩
          · have hvp : validP p = true := validPt_ok hv
            have hvq : validP q = true := HFO.out hv
            go_wp2_with fail
            refine wp_region_noPanic ?_
            refine wp_region_held_drew (S := fun w' => w'.cell? ⟨g, 0, none⟩ = some (.int .i64 h) ∧ w'.cell? ⟨g, 1, none⟩ = some (.slice (some ⟨b1, o1, none⟩) X.length cap1) ∧ w'.cell? ⟨b1, o1 + k * 2, none⟩ = some u ∧ w'.cell? ⟨b1, o1, none⟩ = some u2) (by kernel_rfl) ?_ (fun hHeld => ?_)
            · exact ⟨k0, k1, x0, y0⟩
            (refine wpAnyH_take (i := 0) (v := ?tv32) rfl (by kernel_rfl) (by kernel_rfl) (by kernel_rfl) (fun _ _ _ h => h) (Or.inl ⟨by rfl, ?thy32⟩) (by assumption) ?trest32; case thy32 => (intro w hSw; (try dsimp only at hSw); go_simp; (try with_reducible rfl)); (try simp only [Act.put, List.getElem_toArray, List.getElem_cons_zero, List.getElem_cons_succ, List.setIfInBounds_toArray, List.set_cons_zero, List.set_cons_succ])); (refine wpAnyH_take (i := 1) (v := ?tv33) rfl (by kernel_rfl) (by kernel_rfl) (by kernel_rfl) (fun _ _ _ h => h) (Or.inl ⟨by rfl, ?thy33⟩) (by assumption) ?trest33; case thy33 => (intro w hSw; (try dsimp only at hSw); go_simp; (try with_reducible rfl)); (try simp only [Act.put, List.getElem_toArray, List.getElem_cons_zero, List.getElem_cons_succ, List.setIfInBounds_toArray, List.set_cons_zero, List.set_cons_succ])); (refine wpAnyH_take (i := 2) (v := ?tv34) rfl (by kernel_rfl) (by kernel_rfl) (by kernel_rfl) (fun _ _ _ h => h) (Or.inl ⟨by rfl, ?thy34⟩) (by assumption) ?trest34; case thy34 => (intro w hSw; (try dsimp only at hSw); go_simp; (try with_reducible rfl)); (try simp only [Act.put, List.getElem_toArray, List.getElem_cons_zero, List.getElem_cons_succ, List.setIfInBounds_toArray, List.set_cons_zero, List.set_cons_succ])); (refine wpAnyH_take (i := 3) (v := ?tv35) rfl (by kernel_rfl) (by kernel_rfl) (by kernel_rfl) (fun _ _ _ h => h) (Or.inl ⟨by rfl, ?thy35⟩) (by assumption) ?trest35; case thy35 => (intro w hSw; (try dsimp only at hSw); go_simp; (try with_reducible rfl)); (try simp only [Act.put, List.getElem_toArray, List.getElem_cons_zero, List.getElem_cons_succ, List.setIfInBounds_toArray, List.set_cons_zero, List.set_cons_succ])); (refine wpAnyH_take (i := 4) (v := ?tv36) rfl (by kernel_rfl) (by kernel_rfl) (by kernel_rfl) (fun _ _ _ h => h) (Or.inl ⟨by rfl, ?thy36⟩) (by assumption) ?trest36; case thy36 => (intro w hSw; (try dsimp only at hSw); go_simp; (try with_reducible rfl)); (try simp only [Act.put, List.getElem_toArray, List.getElem_cons_zero, List.getElem_cons_succ, List.setIfInBounds_toArray, List.set_cons_zero, List.set_cons_succ])); (refine wpAnyH_take (i := 5) (v := ?tv37) rfl (by kernel_rfl) (by kernel_rfl) (by kernel_rfl) (fun _ _ _ h => h) (Or.inl ⟨by rfl, ?thy37⟩) (by assumption) ?trest37; case thy37 => (intro w hSw; (try dsimp only at hSw); go_simp; (try with_reducible rfl)); (try simp only [Act.put, List.getElem_toArray, List.getElem_cons_zero, List.getElem_cons_succ, List.setIfInBounds_toArray, List.set_cons_zero, List.set_cons_succ])); (refine wpAnyH_take (i := 6) (v := ?tv38) rfl (by kernel_rfl) (by kernel_rfl) (by kernel_rfl) (fun _ _ _ h => h) (Or.inl ⟨by rfl, ?thy38⟩) (by assumption) ?trest38; case thy38 => (intro w hSw; (try dsimp only at hSw); go_simp; (try with_reducible rfl)); (try simp only [Act.put, List.getElem_toArray, List.getElem_cons_zero, List.getElem_cons_succ, List.setIfInBounds_toArray, List.set_cons_zero, List.set_cons_succ])); (refine wpAnyH_take (i := 7) (v := ?tv39) rfl (by kernel_rfl) (by kernel_rfl) (by kernel_rfl) (fun _ _ _ h => h) (Or.inl ⟨by rfl, ?thy39⟩) (by assumption) ?trest39; case thy39 => (intro w hSw; (try dsimp only at hSw); go_simp; (try with_reducible rfl)); (try simp only [Act.put, List.getElem_toArray, List.getElem_cons_zero, List.getElem_cons_succ, List.setIfInBounds_toArray, List.set_cons_zero, List.set_cons_succ])); (refine wpAnyH_take (i := 8) (v := ?tv40) rfl (by kernel_rfl) (by kernel_rfl) (by kernel_rfl) (fun _ _ _ h => h) (Or.inl ⟨by rfl, ?thy40⟩) (by assumption) ?trest40; case thy40 => (intro w hSw; (try dsimp only at hSw); go_simp; (try with_reducible rfl)); (try simp only [Act.put, List.getElem_toArray, List.getElem_cons_zero, List.getElem_cons_succ, List.setIfInBounds_toArray, List.set_cons_zero, List.set_cons_succ])); (refine wpAnyH_take (i := 9) (v := ?tv41) rfl (by kernel_rfl) (by kernel_rfl) (by kernel_rfl) (fun _ _ _ h => h) (Or.inl ⟨by rfl, ?thy41⟩) (by assumption) ?trest41; case thy41 => (intro w hSw; (try dsimp only at hSw); go_simp; (try with_reducible rfl)); (try simp only [Act.put, List.getElem_toArray, List.getElem_cons_zero, List.getElem_cons_succ, List.setIfInBounds_toArray, List.set_cons_zero, List.set_cons_succ]))
            refine wpAnyH_ready (rs := [10]) (by kernel_rfl) (by simp) ?_; refine AllReadyH.cons (i := 10) rfl (fun K hK => ?_) AllReadyH.nil
            go_simp
            refine (c_spec_l19Part p n h u b1 (o1 + k * 2) _ (hu.below ((Below.refl _ _).dr)) x0 x1).mono ?_; rintro e w4 ⟨rfl, hb4⟩; rw [hv]
            have hb4' := below_drew hb4
            have p0 := keepc hb4' k0
            have p1 := keepc hb4' k1
            have p2 := keepc hb4' x0
            have p3 := keepc hb4' y0
            have hu := hu.below hb4'
            have hu2 := hu2.below hb4'
            refine hK.out _ _ ⟨p0, p1, p2, p3⟩ (fun hHeld => ?_)
            clear hK K
            (try simp only [Act.put, List.getElem_toArray, List.getElem_cons_zero, List.getElem_cons_succ, List.setIfInBounds_toArray, List.set_cons_zero, List.set_cons_succ])
            (refine wpAnyH_take (i := 11) (v := ?tv42) rfl (by kernel_rfl) (by kernel_rfl) (by kernel_rfl) (fun _ _ _ h => h) (Or.inl ⟨by rfl, ?thy42⟩) (by assumption) ?trest42; case thy42 => (intro w hSw; (try dsimp only at hSw); go_simp; (try with_reducible rfl)); (try simp only [Act.put, List.getElem_toArray, List.getElem_cons_zero, List.getElem_cons_succ, List.setIfInBounds_toArray, List.set_cons_zero, List.set_cons_succ])); (refine wpAnyH_take (i := 12) (v := ?tv43) rfl (by kernel_rfl) (by kernel_rfl) (by kernel_rfl) (fun _ _ _ h => h) (Or.inl ⟨by rfl, ?thy43⟩) (by assumption) ?trest43; case thy43 => (intro w hSw; (try dsimp only at hSw); go_simp; (try with_reducible rfl)); (try simp only [Act.put, List.getElem_toArray, List.getElem_cons_zero, List.getElem_cons_succ, List.setIfInBounds_toArray, List.set_cons_zero, List.set_cons_succ]))
            (refine wpAnyH_take (i := 13) (v := ?tv44) rfl (by kernel_rfl) (by kernel_rfl) (by kernel_rfl) (fun _ _ _ h => h) (Or.inl ⟨by kernel_rfl, ?thy44⟩) (by assumption) ?trest44; case thy44 => (intro w hSw; (try dsimp only at hSw); go_simp; (try with_reducible rfl)); (try simp only [Act.put, List.getElem_toArray, List.getElem_cons_zero, List.getElem_cons_succ, List.setIfInBounds_toArray, List.set_cons_zero, List.set_cons_succ])); (refine wpAnyH_take (i := 14) (v := ?tv45) rfl (by kernel_rfl) (by kernel_rfl) (by kernel_rfl) (fun _ _ _ h => h) (Or.inl ⟨by kernel_rfl, ?thy45⟩) (by assumption) ?trest45; case thy45 => (intro w hSw; (try dsimp only at hSw); go_simp; (try with_reducible rfl)); (try simp only [Act.put, List.getElem_toArray, List.getElem_cons_zero, List.getElem_cons_succ, List.setIfInBounds_toArray, List.set_cons_zero, List.set_cons_succ])); (refine wpAnyH_take (i := 15) (v := ?tv46) rfl (by kernel_rfl) (by kernel_rfl) (by kernel_rfl) (fun _ _ _ h => h) (Or.inl ⟨by kernel_rfl, ?thy46⟩) (by assumption) ?trest46; case thy46 => (intro w hSw; (try dsimp only at hSw); go_simp; (try with_reducible rfl)); (try simp only [Act.put, List.getElem_toArray, List.getElem_cons_zero, List.getElem_cons_succ, List.setIfInBounds_toArray, List.set_cons_zero, List.set_cons_succ])); (refine wpAnyH_take (i := 16) (v := ?tv47) rfl (by kernel_rfl) (by kernel_rfl) (by kernel_rfl) (fun _ _ _ h => h) (Or.inl ⟨by kernel_rfl, ?thy47⟩) (by assumption) ?trest47; case thy47 => (intro w hSw; (try dsimp only at hSw); go_simp; (try with_reducible rfl)); (try simp only [Act.put, List.getElem_toArray, List.getElem_cons_zero, List.getElem_cons_succ, List.setIfInBounds_toArray, List.set_cons_zero, List.set_cons_succ])); (refine wpAnyH_take (i := 17) (v := ?tv48) rfl (by kernel_rfl) (by kernel_rfl) (by kernel_rfl) (fun _ _ _ h => h) (Or.inl ⟨by kernel_rfl, ?thy48⟩) (by assumption) ?trest48; case thy48 => (intro w hSw; (try dsimp only at hSw); go_simp; (try with_reducible rfl)); (try simp only [Act.put, List.getElem_toArray, List.getElem_cons_zero, List.getElem_cons_succ, List.setIfInBounds_toArray, List.set_cons_zero, List.set_cons_succ])); (refine wpAnyH_take (i := 18) (v := ?tv49) rfl (by kernel_rfl) (by kernel_rfl) (by kernel_rfl) (fun _ _ _ h => h) (Or.inl ⟨by kernel_rfl, ?thy49⟩) (by assumption) ?trest49; case thy49 => (intro w hSw; (try dsimp only at hSw); go_simp; (try with_reducible rfl)); (try simp only [Act.put, List.getElem_toArray, List.getElem_cons_zero, List.getElem_cons_succ, List.setIfInBounds_toArray, List.set_cons_zero, List.set_cons_succ])); (refine wpAnyH_take (i := 19) (v := ?tv50) rfl (by kernel_rfl) (by kernel_rfl) (by kernel_rfl) (fun _ _ _ h => h) (Or.inl ⟨by kernel_rfl, ?thy50⟩) (by assumption) ?trest50; case thy50 => (intro w hSw; (try dsimp only at hSw); go_simp; (try with_reducible rfl)); (try simp only [Act.put, List.getElem_toArray, List.getElem_cons_zero, List.getElem_cons_succ, List.setIfInBounds_toArray, List.set_cons_zero, List.set_cons_succ])); (refine wpAnyH_take (i := 20) (v := ?tv51) rfl (by kernel_rfl) (by kernel_rfl) (by kernel_rfl) (fun _ _ _ h => h) (Or.inl ⟨by kernel_rfl, ?thy51⟩) (by assumption) ?trest51; case thy51 => (intro w hSw; (try dsimp only at hSw); go_simp; (try with_reducible rfl)); (try simp only [Act.put, List.getElem_toArray, List.getElem_cons_zero, List.getElem_cons_succ, List.setIfInBounds_toArray, List.set_cons_zero, List.set_cons_succ])); (refine wpAnyH_take (i := 22) (v := ?tv52) rfl (by kernel_rfl) (by kernel_rfl) (by kernel_rfl) (fun _ _ _ h => h) (Or.inl ⟨by kernel_rfl, ?thy52⟩) (by assumption) ?trest52; case thy52 => (intro w hSw; (try dsimp only at hSw); go_simp; (try with_reducible rfl)); (try simp only [Act.put, List.getElem_toArray, List.getElem_cons_zero, List.getElem_cons_succ, List.setIfInBounds_toArray, List.set_cons_zero, List.set_cons_succ])); (refine wpAnyH_take (i := 23) (v := ?tv53) rfl (by kernel_rfl) (by kernel_rfl) (by kernel_rfl) (fun _ _ _ h => h) (Or.inl ⟨by kernel_rfl, ?thy53⟩) (by assumption) ?trest53; case thy53 => (intro w hSw; (try dsimp only at hSw); go_simp; (try with_reducible rfl)); (try simp only [Act.put, List.getElem_toArray, List.getElem_cons_zero, List.getElem_cons_succ, List.setIfInBounds_toArray, List.set_cons_zero, List.set_cons_succ])); (refine wpAnyH_take (i := 24) (v := ?tv54) rfl (by kernel_rfl) (by kernel_rfl) (by kernel_rfl) (fun _ _ _ h => h) (Or.inl ⟨by kernel_rfl, ?thy54⟩) (by assumption) ?trest54; case thy54 => (intro w hSw; (try dsimp only at hSw); go_simp; (try with_reducible rfl)); (try simp only [Act.put, List.getElem_toArray, List.getElem_cons_zero, List.getElem_cons_succ, List.setIfInBounds_toArray, List.set_cons_zero, List.set_cons_succ])); (refine wpAnyH_take (i := 25) (v := ?tv55) rfl (by kernel_rfl) (by kernel_rfl) (by kernel_rfl) (fun _ _ _ h => h) (Or.inl ⟨by kernel_rfl, ?thy55⟩) (by assumption) ?trest55; case thy55 => (intro w hSw; (try dsimp only at hSw); go_simp; (try with_reducible rfl)); (try simp only [Act.put, List.getElem_toArray, List.getElem_cons_zero, List.getElem_cons_succ, List.setIfInBounds_toArray, List.set_cons_zero, List.set_cons_succ])); (refine wpAnyH_take (i := 26) (v := ?tv56) rfl (by kernel_rfl) (by kernel_rfl) (by kernel_rfl) (fun _ _ _ h => h) (Or.inl ⟨by kernel_rfl, ?thy56⟩) (by assumption) ?trest56; case thy56 => (intro w hSw; (try dsimp only at hSw); go_simp; (try with_reducible rfl)); (try simp only [Act.put, List.getElem_toArray, List.getElem_cons_zero, List.getElem_cons_succ, List.setIfInBounds_toArray, List.set_cons_zero, List.set_cons_succ])); (refine wpAnyH_take (i := 27) (v := ?tv57) rfl (by kernel_rfl) (by kernel_rfl) (by kernel_rfl) (fun _ _ _ h => h) (Or.inl ⟨by kernel_rfl, ?thy57⟩) (by assumption) ?trest57; case thy57 => (intro w hSw; (try dsimp only at hSw); go_simp; (try with_reducible rfl)); (try simp only [Act.put, List.getElem_toArray, List.getElem_cons_zero, List.getElem_cons_succ, List.setIfInBounds_toArray, List.set_cons_zero, List.set_cons_succ])); (refine wpAnyH_take (i := 28) (v := ?tv58) rfl (by kernel_rfl) (by kernel_rfl) (by kernel_rfl) (fun _ _ _ h => h) (Or.inl ⟨by kernel_rfl, ?thy58⟩) (by assumption) ?trest58; case thy58 => (intro w hSw; (try dsimp only at hSw); go_simp; (try with_reducible rfl)); (try simp only [Act.put, List.getElem_toArray, List.getElem_cons_zero, List.getElem_cons_succ, List.setIfInBounds_toArray, List.set_cons_zero, List.set_cons_succ]))
            refine wpAnyH_ready (rs := [21]) (by kernel_rfl) (by simp) ?_; refine AllReadyH.cons (i := 21) rfl (fun K hK => ?_) AllReadyH.nil
            go_simp
            refine (c_spec_l02Props p u _ hu hvp).mono ?_; rintro e w5 ⟨rfl, rfl⟩
            refine hK.out _ _ ⟨p0, p1, p2, p3⟩ (fun hHeld => ?_)
            clear hK K
            (try simp only [Act.put, List.getElem_toArray, List.getElem_cons_zero, List.getElem_cons_succ, List.setIfInBounds_toArray, List.set_cons_zero, List.set_cons_succ])
            refine wpAnyH_ready (rs := [29]) (by kernel_rfl) (by simp) ?_; refine AllReadyH.cons (i := 29) rfl (fun K hK => ?_) AllReadyH.nil
            go_simp
            refine (c_spec_l02Props q u2 _ hu2 hvq).mono ?_; rintro e w5 ⟨rfl, rfl⟩
            refine hK.out _ _ ⟨p0, p1, p2, p3⟩ (fun hHeld => ?_)
            clear hK K
            (try simp only [Act.put, List.getElem_toArray, List.getElem_cons_zero, List.getElem_cons_succ, List.setIfInBounds_toArray, List.set_cons_zero, List.set_cons_succ])
            obtain ⟨np, Hnp⟩ : ∃ np, Hid (propsP p = np) := ⟨_, rfl⟩
            obtain ⟨nq, Hnq⟩ : ∃ nq, Hid (propsP q = nq) := ⟨_, rfl⟩
            rw [Hnp.out, Hnq.out]
            rcases hnn : (np != nq) with _ | _
            · have hok : okPt h (propsP q) (p, n) = true := by unfold okPt; rw [hv, Hnq.out]; show (true && propsP p == nq) = true; rw [Hnp.out]; simpa using hnn
              have HA2 : Hid ((X.take (k + 1)).all (okPt h (headN X)) = true) := by unfold Hid; rw [HHD.out]; exact HST.out hok
              (refine wpAnyH_take (i := 30) (v := ?tv59) rfl (by kernel_rfl) (by kernel_rfl) (by kernel_rfl) (fun _ _ _ h => h) (Or.inl ⟨by kernel_rfl, ?thy59⟩) (by assumption) ?trest59; case thy59 => (intro w hSw; (try dsimp only at hSw); go_simp; (try with_reducible rfl)); (try simp only [Act.put, List.getElem_toArray, List.getElem_cons_zero, List.getElem_cons_succ, List.setIfInBounds_toArray, List.set_cons_zero, List.set_cons_succ]))
              (refine wpAnyH_take (i := 31) (v := ?tv60) rfl (by kernel_rfl) (by kernel_rfl) (by kernel_rfl) (fun _ _ _ h => h) (Or.inl ⟨by rfl, ?thy60⟩) (by assumption) ?trest60; case thy60 => (intro w hSw; (try dsimp only at hSw); go_simp; (try with_reducible rfl)); (try simp only [Act.put, List.getElem_toArray, List.getElem_cons_zero, List.getElem_cons_succ, List.setIfInBounds_toArray, List.set_cons_zero, List.set_cons_succ]))
              refine wpAnyH_done (by kernel_rfl) ?_ _
              refine NoPanic.normal ?_
              go_wp2
              go_roundw
              case rel => exact ⟨k + 1, by omega, by go_num, HA2, hb.tr hb4'⟩
              case measure => simp [intOf]; omega
            · have HN : Hid (validR h X = false) := HNO.out (by unfold okPt; rw [hv, Hnq.out]; show (true && propsP p == nq) = false; rw [Hnp.out]; simpa using hnn)
              (refine wpAnyH_take (i := 30) (v := ?tv61) rfl (by kernel_rfl) (by kernel_rfl) (by kernel_rfl) (fun _ _ _ h => h) (Or.inl ⟨by kernel_rfl, ?thy61⟩) (by assumption) ?trest61; case thy61 => (intro w hSw; (try dsimp only at hSw); go_simp; (try with_reducible rfl)); (try simp only [Act.put, List.getElem_toArray, List.getElem_cons_zero, List.getElem_cons_succ, List.setIfInBounds_toArray, List.set_cons_zero, List.set_cons_succ]))
              (refine wpAnyH_take (i := 31) (v := ?tv62) rfl (by kernel_rfl) (by kernel_rfl) (by kernel_rfl) (fun _ _ _ h => h) (Or.inl ⟨by rfl, ?thy62⟩) (by assumption) ?trest62; case thy62 => (intro w hSw; (try dsimp only at hSw); go_simp; (try with_reducible rfl)); (try simp only [Act.put, List.getElem_toArray, List.getElem_cons_zero, List.getElem_cons_succ, List.setIfInBounds_toArray, List.set_cons_zero, List.set_cons_succ]))
              refine wpAnyH_done (by kernel_rfl) ?_ _
              refine NoPanic.normal ?_
              go_wp2
              go_ret
              exact ⟨by rw [HN.out]; rfl, hb.tr hb4'⟩
        · obtain rfl : k = X.length := by omega
          have HN : Hid (validR h X = true) := by
            have := HA.out
            rw [List.take_length] at this
            unfold Hid validR
            rw [HH1.out, HN1.out, this]; rfl
          go_wp2
          go_ret
          exact ⟨by rw [HN.out]; rfl, hb⟩
end Go.Proofs.YtioemkdapoombaaGreatDoor
namespace Go.Proofs.YtioemkdapoombaaGreatDoor
open Go.ChangeShapes Go.WideShapes Go.ChangeAt Go.RowKit
set_option linter.unusedVariables false
set_option linter.unusedSimpArgs false
end Go.Proofs.YtioemkdapoombaaGreatDoor
