/- The law LinesX: what it rests on, part 24 of 46. -/
import Derived.Test.YtioemkdapoombaaGreatDoorQLinesX07
import Derived.Test.YtioemkdapoombaaGreatDoorQLinesX17
import Derived.Test.YtioemkdapoombaaGreatDoorQLinesX21
namespace Go.Proofs.YtioemkdapoombaaGreatDoor
open Go.ChangeShapes Go.WideShapes Go.ChangeAt Go.RowKit
set_option linter.unusedVariables false
set_option linter.unusedSimpArgs false
theorem boxRes (w : World) (T : TypeId) (h m : Int) : ∃ W0, W0 = (w.alloc (Obj.cells #[Value.int IntKind.i64 h, Value.int IntKind.i64 m] T)).alloc (Obj.cells #[Value.int IntKind.i64 0, Value.int IntKind.i64 0] T) ∧
    W0.cell? ⟨w.heap.size, 0, none⟩ = some (.int .i64 h) ∧ W0.cell? ⟨w.heap.size, 1, none⟩ = some (.int .i64 m) ∧ W0.cell? ⟨w.heap.size + 1, 0, none⟩ = some (.int .i64 0) ∧ W0.cell? ⟨w.heap.size + 1, 1, none⟩ = some (.int .i64 0) ∧
    W0.frozen? ⟨w.heap.size, 0, none⟩ = false ∧ W0.frozen? ⟨w.heap.size, 1, none⟩ = false ∧ W0.frozen? ⟨w.heap.size + 1, 0, none⟩ = false ∧ W0.frozen? ⟨w.heap.size + 1, 1, none⟩ = false ∧ Below w.heap.size w W0 := by
  refine ⟨_, rfl, ?_, ?_, ?_, ?_, ?_, ?_, ?_, ?_, ((Below.refl _ _).al _).al _⟩ <;> go_simp
/-- the two boxes of a run: the state, and the result that is not written yet -/
structure RunBox (w : World) (h m : Int) (wr : World) : Prop where
  k0 : wr.cell? ⟨w.heap.size, 0, none⟩ = some (.int .i64 h)
  k1 : wr.cell? ⟨w.heap.size, 1, none⟩ = some (.int .i64 m)
  k2 : wr.cell? ⟨w.heap.size + 1, 0, none⟩ = some (.int .i64 0)
  k3 : wr.cell? ⟨w.heap.size + 1, 1, none⟩ = some (.int .i64 0)
  f0 : wr.frozen? ⟨w.heap.size, 0, none⟩ = false
  f1 : wr.frozen? ⟨w.heap.size, 1, none⟩ = false
  f2 : wr.frozen? ⟨w.heap.size + 1, 0, none⟩ = false
  f3 : wr.frozen? ⟨w.heap.size + 1, 1, none⟩ = false
  bl : Below w.heap.size w wr
theorem RunBox.below {w wr w2 : World} {h m : Int} (H : RunBox w h m wr) (hb : Below wr.heap.size wr w2) : RunBox w h m w2 :=
  ⟨keepc hb H.k0, keepc hb H.k1, keepc hb H.k2, keepc hb H.k3, frozenc hb H.k0 H.f0, frozenc hb H.k1 H.f1, frozenc hb H.k2 H.f2, frozenc hb H.k3 H.f3, H.bl.tr hb⟩
theorem RunBox.drew {w wr : World} {h m : Int} (H : RunBox w h m wr) : RunBox w h m wr.drew := ⟨H.k0, H.k1, H.k2, H.k3, H.f0, H.f1, H.f2, H.f3, H.bl.dr⟩
theorem RunBox.drewN {w wr : World} {h m : Int} (H : RunBox w h m wr) (n : Nat) : RunBox w h m (wr.drewN n) := ⟨H.k0, H.k1, H.k2, H.k3, H.f0, H.f1, H.f2, H.f3, H.bl.drN n⟩
theorem RunBox.put {w wr : World} {h m : Int} (H : RunBox w h m wr) (m' : Int) : RunBox w h m' ((wr.setCell ⟨w.heap.size, 0, none⟩ (.int .i64 h)).setCell ⟨w.heap.size, 1, none⟩ (.int .i64 m')) := by
  obtain ⟨X0, X1, hF, hg⟩ := set2 wr w.heap.size (.int .i64 h) (.int .i64 m') _ _ H.k0 H.k1
  have hne : (some w.heap.size : Option Nat) ≠ some (w.heap.size + 1) := by simp
  exact ⟨X0, X1, grown_c hg H.k2 hne, grown_c hg H.k3 hne, by rw [hF]; exact H.f0, by rw [hF]; exact H.f1, by rw [hF]; exact H.f2, by rw [hF]; exact H.f3, (H.bl.setCell (Nat.le_refl _) _).setCell (Nat.le_refl _) _⟩
theorem RunBox.res {w wr : World} {h m : Int} (H : RunBox w h m wr) (h' m' : Int) : ∃ wz, (wr.setCell ⟨w.heap.size + 1, 0, none⟩ (.int .i64 h')).setCell ⟨w.heap.size + 1, 1, none⟩ (.int .i64 m') = wz ∧
    wz.cell? ⟨w.heap.size + 1, 0, none⟩ = some (.int .i64 h') ∧ wz.cell? ⟨w.heap.size + 1, 1, none⟩ = some (.int .i64 m') ∧ Below w.heap.size w wz := by
  obtain ⟨X0, X1, -, -⟩ := set2 wr (w.heap.size + 1) (.int .i64 h') (.int .i64 m') _ _ H.k2 H.k3
  exact ⟨_, rfl, X0, X1, (H.bl.setCell (Nat.le_succ _) _).setCell (Nat.le_succ _) _⟩
theorem boxRun (w : World) (T : TypeId) (h m : Int) : ∃ W0, W0 = (w.alloc (Obj.cells #[Value.int IntKind.i64 h, Value.int IntKind.i64 m] T)).alloc (Obj.cells #[Value.int IntKind.i64 0, Value.int IntKind.i64 0] T) ∧ RunBox w h m W0 := by
  obtain ⟨W0, hW0, k0, k1, k2, k3, f0, f1, f2, f3, B0⟩ := boxRes w T h m
  exact ⟨W0, hW0, k0, k1, k2, k3, f0, f1, f2, f3, B0⟩
theorem run_none {h m : Int} {xs : List Int} (hv : validB h m = false) : Hid (runH h m = 0) ∧ Hid (runS h m xs = 0) ∧ Hid (runI h m xs = 0) ∧ Hid (runC h m xs = 1) := by
  unfold Hid runH runS runI runC; rw [hv]; exact ⟨rfl, rfl, rfl, rfl⟩
theorem run_stop {h m : Int} {xs : List Int} {k : Nat} (hv : validB h m = true) (hk : k < xs.length) (hN : runN h m xs = k) : Hid (runH h m = h) ∧ Hid (runS h m xs = runM m xs k) ∧ Hid (runI h m xs = k) ∧ Hid (runC h m xs = 6) := by
  have hd : decide (k = xs.length) = false := by simp; omega
  unfold Hid runH runS runI runC runOk; rw [hv, hN, hd]; exact ⟨rfl, rfl, rfl, rfl⟩
theorem run_done {h m : Int} {xs : List Int} (hv : validB h m = true) (hN : runN h m xs = xs.length) : Hid (runH h m = h) ∧ Hid (runS h m xs = runM m xs xs.length) ∧ Hid (runI h m xs = xs.length) ∧ Hid (runC h m xs = 0) := by
  have hd : decide (xs.length = xs.length) = true := by simp
  unfold Hid runH runS runI runC runOk; rw [hv, hN, hd]; exact ⟨rfl, rfl, rfl, rfl⟩
set_option maxHeartbeats 2000000 in
set_option maxRecDepth 100000 in
theorem c_spec_RunThrows (h m : Int) (xs : List Int) (v : Value) (w : World) (hr : RdI w v xs) :
    Calls Tryz.prog 17 #[.agg #[.int .i64 h, .int .i64 m], v] w fun e w' => e = .returned (.tuple #[.agg #[.int .i64 (runH h m), .int .i64 (runS h m xs)], .int .i64 (runI h m xs), .int .i64 (runC h m xs)]) ∧ Below w.heap.size w w' := by
  obtain ⟨a1, cap1, rfl, hl1, hc1⟩ := hr
  obtain ⟨W0, hW0, RB⟩ := boxRun w 25 h m
  have HC := Lib.hid hc1
  have k0 := RB.k0
  have k1 := RB.k1
  clear hc1
  cases hv : validB h m
  · obtain ⟨X1, X2, X3, X4⟩ := run_none (xs := xs) hv
    go_enter Tryz.func17, Tryz.ntmps17
    go_wp2_with fail
    rw [← hW0]
    clear hW0
    refine (c_spec_l08Ok h m _).mono ?_; rintro e w1 ⟨rfl, hb1⟩; rw [hv]
    have R1 := RB.below hb1
    have g2 := R1.k2
    have g3 := R1.k3
    have q2 := R1.f2
    have q3 := R1.f3
    have hz : w.heap.size + 1 < w1.heap.size := World.block_lt_of_cell? w1 _ g2
    obtain ⟨wz, hwz, Y0, Y1, BZ⟩ := R1.res 0 0
    go_wp2
    (try rw [hwz])
    refine bodyPost_ret (v := .tuple #[.agg #[.int .i64 0, .int .i64 0], .int .i64 0, .int .i64 1]) (by simp [results, Tryz.results17, go_sem, Y0, Y1]) rfl ⟨by rw [X1.out, X2.out, X3.out, X4.out], BZ⟩
  · have HV := Lib.hid hv
    have hh := (valid_bd hv).1
    have hp10 := pow_le_1024 h.toNat (by omega)
    go_enter Tryz.func17, Tryz.ntmps17
    go_wp2_with fail
    rw [← hW0]
    clear hW0
    refine (c_spec_l08Ok h m _).mono ?_; rintro e w1 ⟨rfl, hb1⟩; rw [hv]
    have R1 := RB.below hb1
    clear hv k0 k1
    go_wp2
    go_loopw [7] (fun i wr => ∃ k : Nat, k ≤ xs.length ∧ i = .int .i64 k ∧ Hid (∀ i, i < k → canAt h m xs i = true) ∧ RunBox w h (runM m xs k) wr) (fun i _ => xs.length - (intOf i).toNat)
    case atStart => exact ⟨0, by omega, rfl, fun i hi => by omega, R1⟩
    case round =>
      clear R1
      obtain ⟨k, hk, rfl, HA, R⟩ := hrel
      have hz : w.heap.size + 1 < wr.heap.size := World.block_lt_of_cell? wr _ R.k2
      by_cases hlt : k < xs.length
      · obtain ⟨b1, o1, rfl, hx⟩ := HC.out k hlt
        have hb1 : b1 < w.heap.size := World.block_lt_of_cell? w _ hx
        have hMb := run_bd HV.out k hk HA.out
        have HS := Lib.hid (runM_succ m xs k hlt)
        have HCA : Hid (canAt h m xs k = canB h (runM m xs k) (xs.getD k 0)) := rfl
        obtain ⟨x, Hx⟩ : ∃ x, Hid (xs.getD k 0 = x) := ⟨_, rfl⟩
        obtain ⟨M, HM⟩ : ∃ M, Hid (runM m xs k = M) := ⟨_, rfl⟩
        rw [Hx.out] at hx HS HCA
        rw [HM.out] at HS HCA R hMb
        have y := keepc R.bl hx
        have k0 := R.k0
        have k1 := R.k1
        have hk0 : (0 : Int) ≤ (k : Int) := Int.natCast_nonneg _
        have hk1 : (k : Int) < (xs.length : Int) := by omega
        cases hcan : canB h M x
        · have HN : runN h m xs = k := runN_eq hk HA.out (fun _ => by rw [HCA.out]; exact hcan)
          obtain ⟨X1, X2, X3, X4⟩ := run_stop HV.out hlt HN
          clear HN
          go_wp2_with fail
          go_region_held3 (fun w' => w'.cell? ⟨w.heap.size, 0, none⟩ = some (.int .i64 h) ∧ w'.cell? ⟨w.heap.size, 1, none⟩ = some (.int .i64 M) ∧ w'.cell? ⟨b1, o1 + k, none⟩ = some (.int .i64 x))
            (go_keep)
            (((go_at_call 36; refine (c_spec_l08Can h M x _ (by omega) (by omega)).mono ?_; rintro e w2 ⟨rfl, hb2⟩; have hb2' := below_drew hb2; have z0 := keepc hb2' k0; have z1 := keepc hb2' k1; have z2 := keepc hb2' y)))
          (try rw [hcan])
          have R2 := R.below hb2'
          have g2 := R2.k2
          have g3 := R2.k3
          have q2 := R2.f2
          have q3 := R2.f3
          have hz2 : w.heap.size + 1 < w2.heap.size := World.block_lt_of_cell? w2 _ g2
          obtain ⟨wz, hwz, Y0, Y1, BZ⟩ := R2.res h M
          clear k0 k1 y
          go_wp2
          (try rw [hwz])
          refine bodyPost_ret (v := .tuple #[.agg #[.int .i64 h, .int .i64 M], .int .i64 (k : Int), .int .i64 6]) (by simp [results, Tryz.results17, go_sem, Y0, Y1]) rfl ⟨by rw [X1.out, X2.out, X3.out, X4.out, HM.out], BZ⟩
        · have hcl := can_le (by omega) hcan
          have HA2 : Hid (∀ i, i < k + 1 → canAt h m xs i = true) := fun i hi => by
            by_cases e : i = k
            · subst e; rw [HCA.out]; exact hcan
            · exact HA.out i (by omega)
          go_wp2_with fail
          go_region_held3 (fun w' => w'.cell? ⟨w.heap.size, 0, none⟩ = some (.int .i64 h) ∧ w'.cell? ⟨w.heap.size, 1, none⟩ = some (.int .i64 M) ∧ w'.cell? ⟨b1, o1 + k, none⟩ = some (.int .i64 x))
            (go_keep)
            (((go_at_call 36; refine (c_spec_l08Can h M x _ (by omega) (by omega)).mono ?_; rintro e w2 ⟨rfl, hb2⟩; have hb2' := below_drew hb2; have z0 := keepc hb2' k0; have z1 := keepc hb2' k1; have z2 := keepc hb2' y)))
          (try rw [hcan])
          have R2 := R.below hb2'
          have y2 := keepc hb2' y
          have cA : w2.drew.cell? ⟨w.heap.size, 0, none⟩ = some (.int .i64 h) ∧ w2.drew.cell? ⟨w.heap.size, 1, none⟩ = some (.int .i64 M) := ⟨R2.k0, R2.k1⟩
          have cB : w2.drew.cell? ⟨b1, o1 + k, none⟩ = some (.int .i64 x) := y2
          clear hcan k0 k1 y
          go_wp2_with fail
          
          refine wp_region_noPanic ?_; refine wp_region_L (S := untilL 5 5 (fun w' => w'.cell? ⟨w.heap.size, 0, none⟩ = some (.int .i64 h) ∧ w'.cell? ⟨w.heap.size, 1, none⟩ = some (.int .i64 M)) (fun w' => w'.cell? ⟨b1, o1 + k, none⟩ = some (.int .i64 x))) (by kernel_rfl) ?_
          (refine wpAnyL_take (S0 := (fun w' => w'.cell? ⟨w.heap.size, 0, none⟩ = some (.int .i64 h) ∧ w'.cell? ⟨w.heap.size, 1, none⟩ = some (.int .i64 M))) (i := 0) (q := 5) (v := ?lv1) rfl rfl (by kernel_rfl) (by kernel_rfl) (by kernel_rfl) (by kernel_rfl) (by kernel_rfl) (fun _ _ _ h => h) (fun _ _ hq hS => hS.1 hq) (untilL_set (by decide) (by decide)) (Or.inl ⟨by rfl, ?lhy1⟩) ⟨fun _ => cA, fun _ => cB⟩ ?lrest1; case lhy1 => (intro w hSw; (try dsimp only at hSw); go_simp; (try with_reducible rfl)); (try simp only [Act.put, List.getElem_toArray, List.getElem_cons_zero, List.getElem_cons_succ, List.setIfInBounds_toArray, List.set_cons_zero, List.set_cons_succ])); (refine wpAnyL_take (S0 := (fun _ => True)) (i := 1) (q := 3) (v := ?lv2) rfl rfl (by kernel_rfl) (by kernel_rfl) (by kernel_rfl) (by kernel_rfl) (by kernel_rfl) (fun _ _ _ h => h) (fun _ _ _ _ => True.intro) (untilL_set (by decide) (by decide)) (Or.inl ⟨by rfl, ?lhy2⟩) ⟨fun _ => cA, fun _ => cB⟩ ?lrest2; case lhy2 => (intro w hSw; (try dsimp only at hSw); go_simp; (try with_reducible rfl)); (try simp only [Act.put, List.getElem_toArray, List.getElem_cons_zero, List.getElem_cons_succ, List.setIfInBounds_toArray, List.set_cons_zero, List.set_cons_succ])); (refine wpAnyL_take (S0 := (fun _ => True)) (i := 2) (q := 3) (v := ?lv3) rfl rfl (by kernel_rfl) (by kernel_rfl) (by kernel_rfl) (by kernel_rfl) (by kernel_rfl) (fun _ _ _ h => h) (fun _ _ _ _ => True.intro) (untilL_set (by decide) (by decide)) (Or.inl ⟨by rfl, ?lhy3⟩) ⟨fun _ => cA, fun _ => cB⟩ ?lrest3; case lhy3 => (intro w hSw; (try dsimp only at hSw); go_simp; (try with_reducible rfl)); (try simp only [Act.put, List.getElem_toArray, List.getElem_cons_zero, List.getElem_cons_succ, List.setIfInBounds_toArray, List.set_cons_zero, List.set_cons_succ])); (refine wpAnyL_take (S0 := (fun _ => True)) (i := 3) (q := 4) (v := ?lv4) rfl rfl (by kernel_rfl) (by kernel_rfl) (by kernel_rfl) (by kernel_rfl) (by kernel_rfl) (fun _ _ _ h => h) (fun _ _ _ _ => True.intro) (untilL_set (by decide) (by decide)) (Or.inl ⟨by rfl, ?lhy4⟩) ⟨fun _ => cA, fun _ => cB⟩ ?lrest4; case lhy4 => (intro w hSw; (try dsimp only at hSw); go_simp; (try with_reducible rfl)); (try simp only [Act.put, List.getElem_toArray, List.getElem_cons_zero, List.getElem_cons_succ, List.setIfInBounds_toArray, List.set_cons_zero, List.set_cons_succ])); (refine wpAnyL_take (S0 := (fun w' => w'.cell? ⟨b1, o1 + k, none⟩ = some (.int .i64 x))) (i := 4) (q := 5) (v := ?lv5) rfl rfl (by kernel_rfl) (by kernel_rfl) (by kernel_rfl) (by kernel_rfl) (by kernel_rfl) (fun _ _ _ h => h) (fun _ _ hq hS => hS.2 hq) (untilL_set (by decide) (by decide)) (Or.inl ⟨by rfl, ?lhy5⟩) ⟨fun _ => cA, fun _ => cB⟩ ?lrest5; case lhy5 => (intro w hSw; (try dsimp only at hSw); go_simp; (try with_reducible rfl)); (try simp only [Act.put, List.getElem_toArray, List.getElem_cons_zero, List.getElem_cons_succ, List.setIfInBounds_toArray, List.set_cons_zero, List.set_cons_succ]))
          refine wpAnyL_ready (rs := [5]) (by kernel_rfl) (by simp) ?_; refine AllReadyL.cons (i := 5) rfl (fun K hK => ?_) AllReadyL.nil
          go_simp
          refine (c_spec_l08Next h M x _ (by omega) (by omega)).mono ?_; rintro e w3 ⟨rfl, hb3⟩
          have R3 := R2.drew.below hb3
          have e0 := R3.k0
          have e1 := R3.k1
          have q0 := R3.f0
          have q1 := R3.f1
          have R4 := R3.put (nextM M x)
          have hz3 : w.heap.size + 1 < w3.heap.size := World.block_lt_of_cell? w3 _ R3.k2
          refine hK.out _ _ ⟨(fun h => Bool.noConfusion (show true = false from h)), (fun h => Bool.noConfusion (show true = false from h))⟩ (fun hHeld => ?_); clear hK K; (try simp only [Act.put, List.getElem_toArray, List.getElem_cons_zero, List.getElem_cons_succ, List.setIfInBounds_toArray, List.set_cons_zero, List.set_cons_succ])
          refine wpAnyL_ready (rs := [6]) (by kernel_rfl) (by simp) ?_; refine AllReadyL.cons (i := 6) rfl (fun K hK => ?_) AllReadyL.nil
          go_simp
          refine hK.out _ _ ⟨(fun h => Bool.noConfusion (show true = false from h)), (fun h => Bool.noConfusion (show true = false from h))⟩ (fun hHeld => ?_); clear hK K; (try simp only [Act.put, List.getElem_toArray, List.getElem_cons_zero, List.getElem_cons_succ, List.setIfInBounds_toArray, List.set_cons_zero, List.set_cons_succ])
          refine wpAnyL_done (by kernel_rfl) ?_ _; refine NoPanic.normal ?_
          go_wp2
          go_roundw
          case rel => exact ⟨k + 1, by omega, by go_num, HA2, by rw [HS.out]; exact R4⟩
          case measure => simp [intOf]; omega
      · obtain rfl : k = xs.length := by omega
        have HN : runN h m xs = xs.length := runN_eq (Nat.le_refl _) HA.out (fun h => absurd h (Nat.lt_irrefl _))
        obtain ⟨X1, X2, X3, X4⟩ := run_done HV.out HN
        clear HN
        obtain ⟨M, HM⟩ : ∃ M, Hid (runM m xs xs.length = M) := ⟨_, rfl⟩
        rw [HM.out] at R
        have g0 := R.k0
        have g1 := R.k1
        have g2 := R.k2
        have g3 := R.k3
        have q2 := R.f2
        have q3 := R.f3
        obtain ⟨wz, hwz, Y0, Y1, BZ⟩ := R.res h M
        go_wp2
        (try rw [hwz])
        refine bodyPost_ret (v := .tuple #[.agg #[.int .i64 h, .int .i64 M], .int .i64 (xs.length : Int), .int .i64 0]) (by simp [results, Tryz.results17, go_sem, Y0, Y1]) rfl ⟨by rw [X1.out, X2.out, X3.out, X4.out, HM.out], BZ⟩
end Go.Proofs.YtioemkdapoombaaGreatDoor
