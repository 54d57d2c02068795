/- The law WrittenX: what it rests on, part 29 of 46. -/
import Derived.Test.YtioemkdapoombaaGreatDoorQWrittenX15
section
namespace Go.Proofs.YtioemkdapoombaaGreatDoor
open Go.ChangeShapes Go.WideShapes Go.ChangeAt Go.RowKit
set_option linter.unusedVariables false
set_option linter.unusedSimpArgs false
set_option maxHeartbeats 1000000 in
set_option maxRecDepth 100000 in
theorem c_spec_l08Code (a : List Int) (h : Int) (v : Value) (w : World) (hr : RdI w v a) :
    Calls Tryz.prog 119 #[v, .int .i64 0, .int .i64 h] w fun e w' => e = .returned (.int .i64 (brC a a h)) ∧ Below w.heap.size w w' := by
  have HR1 := Lib.hid hr
  have h0 : inB 0 (-1000) 1000 = true := by decide
  clear hr
  rcases brC_cases a a h with ⟨h1, hc⟩ | ⟨h1, h2, hc⟩ | ⟨h1, h2, h3, hc⟩ | ⟨h1, h2, h3, h4, hc⟩ | ⟨h1, h2, h3, h4, h5, hc⟩ | ⟨h1, h2, h3, h4, h5, h6, hc⟩ | ⟨h1, h2, h3, h4, h5, h6, hc⟩
  · have HC := Lib.hid hc
    go_enter Tryz.func119, Tryz.ntmps119
    go_wp2_with fail
    refine (c_spec_l02Ok a _ _ HR1.out).mono ?_; rintro e w1 ⟨rfl, hb1⟩
    rw [h1]
    go_wp2
    go_ret
    exact ⟨by rw [HC.out]; rfl, hb1⟩
  · rw [h1] at h2; cases h2
  · have HC := Lib.hid hc
    go_enter Tryz.func119, Tryz.ntmps119
    go_wp2_with fail
    refine (c_spec_l02Ok a _ _ HR1.out).mono ?_; rintro e w1 ⟨rfl, hb1⟩
    rw [h1]
    clear h1 h2
    go_wp2_with fail
    refine (c_spec_l00In _ _ _ _).mono ?_; rintro e w2 ⟨rfl, rfl⟩; rw [h0]
    go_wp2_with fail
    refine (c_spec_l08Height h _).mono ?_; rintro e w3 ⟨rfl, rfl⟩; rw [h3]
    go_wp2
    go_ret
    exact ⟨by rw [HC.out]; rfl, hb1⟩
  · have HC := Lib.hid hc
    go_enter Tryz.func119, Tryz.ntmps119
    go_wp2_with fail
    refine (c_spec_l02Ok a _ _ HR1.out).mono ?_; rintro e w1 ⟨rfl, hb1⟩
    rw [h1]
    clear h1 h2
    go_wp2_with fail
    refine (c_spec_l00In _ _ _ _).mono ?_; rintro e w2 ⟨rfl, rfl⟩; rw [h0]
    go_wp2_with fail
    refine (c_spec_l08Height h _).mono ?_; rintro e w3 ⟨rfl, rfl⟩; rw [h3]
    go_wp2_with fail
    refine (c_spec_l02High a _ _ (HR1.out.below hb1)).mono ?_; rintro e w3 ⟨rfl, rfl⟩
    go_wp2
    go_ret
    exact ⟨by rw [HC.out]; rfl, hb1⟩
  · exact absurd h5 h4
  · simp at h6
  · have HC := Lib.hid hc
    go_enter Tryz.func119, Tryz.ntmps119
    go_wp2_with fail
    refine (c_spec_l02Ok a _ _ HR1.out).mono ?_; rintro e w1 ⟨rfl, hb1⟩
    rw [h1]
    clear h1 h2
    go_wp2_with fail
    refine (c_spec_l00In _ _ _ _).mono ?_; rintro e w2 ⟨rfl, rfl⟩; rw [h0]
    go_wp2_with fail
    refine (c_spec_l08Height h _).mono ?_; rintro e w3 ⟨rfl, rfl⟩; rw [h3]
    go_wp2_with fail
    refine (c_spec_l02High a _ _ (HR1.out.below hb1)).mono ?_; rintro e w3 ⟨rfl, rfl⟩
    go_wp2
    go_ret
    exact ⟨by rw [HC.out]; rfl, hb1⟩
theorem c_impl_ground (p : List Int) (h : Int) (v : Value) (w : World) (hr : RdI w v p) (hv : validP p = true) (hn : 0 ≤ propsP p ∧ propsP p ≤ 10) :
    Calls Tryz.prog 82 #[v, .int .i64 h] w fun e w' => e = .returned (.agg #[.int .i64 h, .int .i64 (groundI (propsP p))]) ∧ Below w.heap.size w w' := by
  have HG : Hid (groundI (propsP p) = 2 ^ (propsP p).toNat - 1) := rfl
  have hp1 := pow_le_1024 (propsP p).toNat (by omega)
  have hp2 := pow_pos_int (propsP p).toNat
  have HR := Lib.hid (hr.below ((Below.refl _ _).al (Obj.cells #[Value.int IntKind.i64 0, Value.int IntKind.i64 0] 25)))
  have HV := Lib.hid hv
  clear hv hr
  generalize hN : propsP p = N at *
  go_enter Tryz.func82, Tryz.ntmps82
  go_wp2_with (go_at_call 80; refine (c_impl_propsOf p _ _ HR.out HV.out).mono ?_; rintro e w2 ⟨rfl, rfl⟩; rw [hN])
  refine bodyPost_ret (v := .agg #[.int .i64 h, .int .i64 (2 ^ N.toNat - 1)]) (by simp [results, Tryz.results82, go_sem]) rfl ⟨by rw [HG.out], by (repeat (first | (with_reducible assumption) | (with_reducible exact Below.refl _ _) | (with_reducible refine Below.setCell ?_ (by first | (simp; done) | (simp; omega)) _) | (with_reducible refine Below.al ?_ _) | (with_reducible refine Below.dr ?_) | (with_reducible refine Below.drN ?_ _) | (with_reducible refine Below.tr ?_ (by with_reducible assumption))))⟩
theorem c_spec_l08Ground (n : Int) (w : World) (hn : 0 ≤ n ∧ n ≤ 10) :
    Calls Tryz.prog 53 #[.int .i64 n] w fun e w' => e = .returned (.int .i64 (groundI n)) ∧ w = w' := by
  have HG : Hid (groundI n = 2 ^ n.toNat - 1) := rfl
  have hp1 := pow_le_1024 n.toNat (by omega)
  have hp2 := pow_pos_int n.toNat
  go_enter Tryz.func53, Tryz.ntmps53
  go_wp2
  go_ret
  exact ⟨by rw [HG.out]; rfl, rfl⟩
set_option maxHeartbeats 1000000 in
set_option maxRecDepth 100000 in
theorem c_spec_l10Ground (h m : Int) (w : World) (hm : 0 ≤ m ∧ m < 1024) :
    Calls Tryz.prog 122 #[.agg #[.int .i64 h, .int .i64 m]] w fun e w' => e = .returned (.agg #[.int .i64 h, .int .i64 (groundI (popI m))]) ∧ Below w.heap.size w w' := by
  have hpb := popTo_bd m 10
  have hpi : 0 ≤ popI m ∧ popI m ≤ 10 := by unfold popI; omega
  obtain ⟨W0, hW0⟩ : ∃ W0, W0 = (w.alloc (Obj.cells #[Value.int IntKind.i64 h, Value.int IntKind.i64 m] 25)).alloc (Obj.cells #[Value.int IntKind.i64 0, Value.int IntKind.i64 0] 25) := ⟨_, rfl⟩
  have k0 : W0.cell? ⟨w.heap.size, 0, none⟩ = some (.int .i64 h) := by rw [hW0]; go_simp
  have k1 : W0.cell? ⟨w.heap.size, 1, none⟩ = some (.int .i64 m) := by rw [hW0]; go_simp
  have k2 : W0.cell? ⟨w.heap.size + 1, 0, none⟩ = some (.int .i64 0) := by rw [hW0]; go_simp
  have k3 : W0.cell? ⟨w.heap.size + 1, 1, none⟩ = some (.int .i64 0) := by rw [hW0]; go_simp
  have f2 : W0.frozen? ⟨w.heap.size + 1, 0, none⟩ = false := by rw [hW0]; go_simp
  have f3 : W0.frozen? ⟨w.heap.size + 1, 1, none⟩ = false := by rw [hW0]; go_simp
  have B0 : Below w.heap.size w W0 := by rw [hW0]; (repeat (first | (with_reducible assumption) | (with_reducible exact Below.refl _ _) | (with_reducible refine Below.setCell ?_ (by first | (simp; done) | (simp; omega)) _) | (with_reducible refine Below.al ?_ _) | (with_reducible refine Below.dr ?_) | (with_reducible refine Below.drN ?_ _) | (with_reducible refine Below.tr ?_ (by with_reducible assumption))))
  have hne : ¬ w.heap.size = w.heap.size + 1 := by omega
  have hne2 : ¬ w.heap.size + 1 = w.heap.size := by omega
  go_enter Tryz.func122, Tryz.ntmps122
  go_wp2_with fail
  rw [← hW0]
  clear hW0
  go_region_held3 (fun w' => w'.cell? ⟨w.heap.size, 0, none⟩ = some (.int .i64 h) ∧ w'.cell? ⟨w.heap.size, 1, none⟩ = some (.int .i64 m))
    (go_keep)
    (first
      | ((go_at_call 147; refine (c_spec_l08Count m _ hm).mono ?_; rintro e w2 ⟨rfl, rfl⟩))
      | ((go_at_call 53; refine (c_spec_l08Ground (popI m) _ hpi).mono ?_; rintro e w3 ⟨rfl, rfl⟩)))
  obtain ⟨X0, X1, -, hg⟩ := set2 W0 (w.heap.size + 1) (.int .i64 h) (.int .i64 (groundI (popI m))) _ _ k2 k3
  have BZ := (B0.setCell (p := ⟨w.heap.size + 1, 0, none⟩) (Nat.le_succ _) (.int .i64 h)).setCell (p := ⟨w.heap.size + 1, 1, none⟩) (Nat.le_succ _) (.int .i64 (groundI (popI m)))
  generalize ((W0.setCell ⟨w.heap.size + 1, 0, none⟩ (.int .i64 h)).setCell ⟨w.heap.size + 1, 1, none⟩ (.int .i64 (groundI (popI m)))) = wz at *
  go_wp2
  refine bodyPost_ret (v := .agg #[.int .i64 h, .int .i64 (groundI (popI m))]) (by simp [results, Tryz.results122, go_sem, X0, X1]) rfl ⟨rfl, by first | exact BZ | exact BZ.drew⟩
end Go.Proofs.YtioemkdapoombaaGreatDoor
end
section
namespace Go.Proofs.YtioemkdapoombaaGreatDoor
open Go.ChangeShapes Go.WideShapes Go.ChangeAt Go.RowKit
set_option linter.unusedVariables false
set_option linter.unusedSimpArgs false
noncomputable def entryL (p : List Int) (h : Int) : List Int := bif brC p p h == 0 then shortL h (groundI (propsP p)) (stM p 0 h) else []
noncomputable def exitL (p : List Int) (h : Int) : List Int := bif brC p p h == 0 then shortL h (stM p 0 h) (groundI (propsP p)) else []
noncomputable def bridgeL (a b : List Int) (h : Int) : List Int := shortL h (stM a 0 h) (stM b 0 h)
theorem short_le {n h a b : Int} (hh : 1 ≤ h ∧ h ≤ 10) (ha : a ∈ maskL n h) (hb : b ∈ maskL n h) : (shortL h a b).length ≤ 1024 := by
  have h3 := farM_bd hh ha hb
  have h4 := maskL_len n h hh
  rw [shortL_len]
  omega
set_option maxHeartbeats 1000000 in
set_option maxRecDepth 100000 in
theorem c_spec_EntryOf (p : List Int) (h : Int) (v : Value) (w : World) (hr : RdI w v p) :
    Calls Tryz.prog 88 #[v, .int .i64 h] w fun e w' => ∃ u, e = .returned (.tuple #[u, .int .i64 (brC p p h)]) ∧ OwnI1 w.heap.size w' u (entryL p h) ∧ Below w.heap.size w w' := by
  have HR := Lib.hid hr
  clear hr
  cases hc : (brC p p h != 0)
  · have hc0 : brC p p h = 0 := by simpa using hc
    have HX : Hid (entryL p h = shortL h (groundI (propsP p)) (stM p 0 h)) := by unfold Hid entryL; rw [hc0]; rfl
    have HC := Lib.hid hc0
    obtain ⟨⟨hv, _⟩, hh, ⟨hp, _⟩, _⟩ := brC_ok hc0
    have hpb := props_bd hv hh hp
    have HM1 := Lib.hid (ground_mem hh hpb)
    have HM2 := Lib.hid (stM_mem hv 0 hh hp)
    have HPP := Lib.hid (stM_pop hv 0 hh hp)
    have hsq := mask_bd hh (stM_mem hv 0 hh hp)
    have HV := Lib.hid hv
    clear hc0 hv hp
    go_enter Tryz.func88, Tryz.ntmps88
    go_wp2_with fail
    refine (c_spec_l08Code p h _ _ HR.out).mono ?_; rintro e w1 ⟨rfl, hb1⟩
    go_wp2_with fail
    refine (c_spec_l08Of p 0 h _ _ (HR.out.below hb1) HV.out (by omega) hh).mono ?_; rintro e w2 ⟨rfl, hb2⟩
    generalize hsm : stM p 0 h = s at *
    go_wp2_with fail
    have j0 : (w2.alloc (Obj.cells #[Value.int IntKind.i64 h, Value.int IntKind.i64 s] 25)).cell? ⟨w2.heap.size, 0, none⟩ = some (.int .i64 h) := World.cell?_alloc_at _ _ _ _ rfl
    have j1 : (w2.alloc (Obj.cells #[Value.int IntKind.i64 h, Value.int IntKind.i64 s] 25)).cell? ⟨w2.heap.size, 1, none⟩ = some (.int .i64 s) := World.cell?_alloc_at _ _ _ _ rfl
    have B2 : Below w.heap.size w (w2.alloc (Obj.cells #[Value.int IntKind.i64 h, Value.int IntKind.i64 s] 25)) := (hb1.tr hb2).al _
    generalize (w2.alloc (Obj.cells #[Value.int IntKind.i64 h, Value.int IntKind.i64 s] 25)) = W3 at *
    go_region_held3 (fun w' => w'.cell? ⟨w2.heap.size, 0, none⟩ = some (.int .i64 h) ∧ w'.cell? ⟨w2.heap.size, 1, none⟩ = some (.int .i64 s))
      (go_keep)
      (first
        | ((go_at_call 122; refine (c_spec_l10Ground h s _ hsq).mono ?_; rintro e w4 ⟨rfl, hb4⟩; rw [HPP.out]; have hb4' := below_drew hb4; have m0 := keepc hb4' j0; have m1 := keepc hb4' j1))
        | ((go_at_call 121; refine (c_spec_l10Short (propsP p) h _ _ _ hh HM1.out HM2.out).mono ?_; rintro e w5 ⟨u, rfl, hu, hb5⟩; have n0 := keepc hb5 m0; have n1 := keepc hb5 m1)))
    have B4 : Below w.heap.size w w4 := B2.tr hb4'
    go_wp2
    go_ret2
    exact ⟨_, by rw [HC.out]; rfl, by rw [HX.out]; exact hu.base B4.size, by (repeat (first | (with_reducible assumption) | (with_reducible exact Below.refl _ _) | (with_reducible refine Below.setCell ?_ (by first | (simp; done) | (simp; omega)) _) | (with_reducible refine Below.al ?_ _) | (with_reducible refine Below.dr ?_) | (with_reducible refine Below.drN ?_ _) | (with_reducible refine Below.tr ?_ (by with_reducible assumption))))⟩
  · have HX : Hid (entryL p h = []) := by
      have : (brC p p h == 0) = false := by simpa using hc
      unfold Hid entryL; rw [this]; rfl
    go_enter Tryz.func88, Tryz.ntmps88
    go_wp2_with fail
    refine (c_spec_l08Code p h _ _ HR.out).mono ?_; rintro e w1 ⟨rfl, hb1⟩
    go_wp2
    go_ret2
    exact ⟨_, rfl, by rw [HX.out]; exact OwnI.nil _ rfl, hb1⟩
set_option maxHeartbeats 1000000 in
set_option maxRecDepth 100000 in
theorem c_spec_ExitOf (p : List Int) (h : Int) (v : Value) (w : World) (hr : RdI w v p) :
    Calls Tryz.prog 90 #[v, .int .i64 h] w fun e w' => ∃ u, e = .returned (.tuple #[u, .int .i64 (brC p p h)]) ∧ OwnI1 w.heap.size w' u (exitL p h) ∧ Below w.heap.size w w' := by
  have HR := Lib.hid hr
  clear hr
  cases hc : (brC p p h != 0)
  · have hc0 : brC p p h = 0 := by simpa using hc
    have HX : Hid (exitL p h = shortL h (stM p 0 h) (groundI (propsP p))) := by unfold Hid exitL; rw [hc0]; rfl
    have HC := Lib.hid hc0
    obtain ⟨⟨hv, _⟩, hh, ⟨hp, _⟩, _⟩ := brC_ok hc0
    have hpb := props_bd hv hh hp
    have HM1 := Lib.hid (ground_mem hh hpb)
    have HM2 := Lib.hid (stM_mem hv 0 hh hp)
    have HPP := Lib.hid (stM_pop hv 0 hh hp)
    have hsq := mask_bd hh (stM_mem hv 0 hh hp)
    have HV := Lib.hid hv
    clear hc0 hv hp
    go_enter Tryz.func90, Tryz.ntmps90
    go_wp2_with fail
    refine (c_spec_l08Code p h _ _ HR.out).mono ?_; rintro e w1 ⟨rfl, hb1⟩
    go_wp2_with fail
    refine (c_spec_l08Of p 0 h _ _ (HR.out.below hb1) HV.out (by omega) hh).mono ?_; rintro e w2 ⟨rfl, hb2⟩
    generalize hsm : stM p 0 h = s at *
    go_wp2_with fail
    have j0 : (w2.alloc (Obj.cells #[Value.int IntKind.i64 h, Value.int IntKind.i64 s] 25)).cell? ⟨w2.heap.size, 0, none⟩ = some (.int .i64 h) := World.cell?_alloc_at _ _ _ _ rfl
    have j1 : (w2.alloc (Obj.cells #[Value.int IntKind.i64 h, Value.int IntKind.i64 s] 25)).cell? ⟨w2.heap.size, 1, none⟩ = some (.int .i64 s) := World.cell?_alloc_at _ _ _ _ rfl
    have B2 : Below w.heap.size w (w2.alloc (Obj.cells #[Value.int IntKind.i64 h, Value.int IntKind.i64 s] 25)) := (hb1.tr hb2).al _
    generalize (w2.alloc (Obj.cells #[Value.int IntKind.i64 h, Value.int IntKind.i64 s] 25)) = W3 at *
    go_region_held3 (fun w' => w'.cell? ⟨w2.heap.size, 0, none⟩ = some (.int .i64 h) ∧ w'.cell? ⟨w2.heap.size, 1, none⟩ = some (.int .i64 s))
      (go_keep)
      (first
        | ((go_at_call 122; refine (c_spec_l10Ground h s _ hsq).mono ?_; rintro e w4 ⟨rfl, hb4⟩; rw [HPP.out]; have hb4' := below_drew hb4; have m0 := keepc hb4' j0; have m1 := keepc hb4' j1))
        | ((go_at_call 121; refine (c_spec_l10Short (propsP p) h _ _ _ hh HM2.out HM1.out).mono ?_; rintro e w5 ⟨u, rfl, hu, hb5⟩; have n0 := keepc hb5 m0; have n1 := keepc hb5 m1)))
    have B4 : Below w.heap.size w w4 := B2.tr hb4'
    go_wp2
    go_ret2
    exact ⟨_, by rw [HC.out]; rfl, by rw [HX.out]; exact hu.base B4.size, by (repeat (first | (with_reducible assumption) | (with_reducible exact Below.refl _ _) | (with_reducible refine Below.setCell ?_ (by first | (simp; done) | (simp; omega)) _) | (with_reducible refine Below.al ?_ _) | (with_reducible refine Below.dr ?_) | (with_reducible refine Below.drN ?_ _) | (with_reducible refine Below.tr ?_ (by with_reducible assumption))))⟩
  · have HX : Hid (exitL p h = []) := by
      have : (brC p p h == 0) = false := by simpa using hc
      unfold Hid exitL; rw [this]; rfl
    go_enter Tryz.func90, Tryz.ntmps90
    go_wp2_with fail
    refine (c_spec_l08Code p h _ _ HR.out).mono ?_; rintro e w1 ⟨rfl, hb1⟩
    go_wp2
    go_ret2
    exact ⟨_, rfl, by rw [HX.out]; exact OwnI.nil _ rfl, hb1⟩
theorem c_spec_l10Bridge (a b : List Int) (h : Int) (v1 v2 : Value) (w : World) (hr1 : RdI w v1 a) (hr2 : RdI w v2 b) (hc : brC a b h = 0) :
    Calls Tryz.prog 89 #[v1, v2, .int .i64 h] w fun e w' => ∃ u, e = .returned u ∧ OwnI1 w.heap.size w' u (bridgeL a b h) ∧ Below w.heap.size w w' := by
  have HR1 := Lib.hid hr1
  have HR2 := Lib.hid hr2
  obtain ⟨⟨hva, hvb⟩, hh, ⟨hpa, hpb⟩, he⟩ := brC_ok hc
  have HM1 := Lib.hid (stM_mem hva 0 hh hpa)
  have HM2 : Hid (stM b 0 h ∈ maskL (propsP a) h) := by have h2 := stM_mem hvb 0 hh hpb; rw [← he] at h2; exact h2
  have HVA := Lib.hid hva
  have HVB := Lib.hid hvb
  have HX : Hid (bridgeL a b h = shortL h (stM a 0 h) (stM b 0 h)) := rfl
  clear hr1 hr2 hc hva hvb hpa hpb he
  go_enter Tryz.func89, Tryz.ntmps89
  go_wp2_with fail
  refine (c_spec_l08Of a 0 h _ _ HR1.out HVA.out (by omega) hh).mono ?_; rintro e w1 ⟨rfl, hb1⟩
  go_wp2_with fail
  refine (c_spec_l08Of b 0 h _ _ (HR2.out.below hb1) HVB.out (by omega) hh).mono ?_; rintro e w2 ⟨rfl, hb2⟩
  go_wp2_with fail
  refine (c_spec_l10Short (propsP a) h _ _ _ hh HM1.out HM2.out).mono ?_; rintro e w3 ⟨u, rfl, hu, hb3⟩
  have B2 := hb1.tr hb2
  go_wp2
  go_ret
  exact ⟨_, rfl, by rw [HX.out]; exact hu.base B2.size, B2.tr hb3⟩
end Go.Proofs.YtioemkdapoombaaGreatDoor
end
