/- The law LinesX: what it rests on, part 14 of 46. -/
import Derived.Test.YtioemkdapoombaaGreatDoorQLinesX13
namespace Go.Proofs.YtioemkdapoombaaGreatDoor
open Go.ChangeShapes Go.WideShapes Go.ChangeAt Go.RowKit
set_option linter.unusedVariables false
set_option linter.unusedSimpArgs false
noncomputable def entryL (p : List Int) (h : Int) : List Int := bif brC p p h == 0 then shortL h (groundI (propsP p)) (stM p 0 h) else []
noncomputable def exitL (p : List Int) (h : Int) : List Int := bif brC p p h == 0 then shortL h (stM p 0 h) (groundI (propsP p)) else []
noncomputable def bridgeL (a b : List Int) (h : Int) : List Int := shortL h (stM a 0 h) (stM b 0 h)
theorem short_le {n h a b : Int} (hh : 1 ≤ h ∧ h ≤ 10) (ha : a ∈ maskL n h) (hb : b ∈ maskL n h) : (shortL h a b).length ≤ 1024 := by
  have h3 := farM_bd hh ha hb
  have h4 := maskL_len n h hh
  rw [shortL_len]
  omega
set_option maxHeartbeats 1000000 in
set_option maxRecDepth 100000 in
theorem c_spec_EntryOf (p : List Int) (h : Int) (v : Value) (w : World) (hr : RdI w v p) :
    Calls Tryz.prog 88 #[v, .int .i64 h] w fun e w' => ∃ u, e = .returned (.tuple #[u, .int .i64 (brC p p h)]) ∧ OwnI1 w.heap.size w' u (entryL p h) ∧ Below w.heap.size w w' := by
  have HR := Lib.hid hr
  clear hr
  cases hc : (brC p p h != 0)
  · have hc0 : brC p p h = 0 := by simpa using hc
    have HX : Hid (entryL p h = shortL h (groundI (propsP p)) (stM p 0 h)) := by unfold Hid entryL; rw [hc0]; rfl
    have HC := Lib.hid hc0
    obtain ⟨⟨hv, _⟩, hh, ⟨hp, _⟩, _⟩ := brC_ok hc0
    have hpb := props_bd hv hh hp
    have HM1 := Lib.hid (ground_mem hh hpb)
    have HM2 := Lib.hid (stM_mem hv 0 hh hp)
    have HPP := Lib.hid (stM_pop hv 0 hh hp)
    have hsq := mask_bd hh (stM_mem hv 0 hh hp)
    have HV := Lib.hid hv
    clear hc0 hv hp
    go_enter Tryz.func88, Tryz.ntmps88
    go_wp2_with fail
    refine (c_spec_l08Code p h _ _ HR.out).mono ?_; rintro e w1 ⟨rfl, hb1⟩
    go_wp2_with fail
    refine (c_spec_l08Of p 0 h _ _ (HR.out.below hb1) HV.out (by omega) hh).mono ?_; rintro e w2 ⟨rfl, hb2⟩
    generalize hsm : stM p 0 h = s at *
    go_wp2_with fail
    have j0 : (w2.alloc (Obj.cells #[Value.int IntKind.i64 h, Value.int IntKind.i64 s] 25)).cell? ⟨w2.heap.size, 0, none⟩ = some (.int .i64 h) := World.cell?_alloc_at _ _ _ _ rfl
    have j1 : (w2.alloc (Obj.cells #[Value.int IntKind.i64 h, Value.int IntKind.i64 s] 25)).cell? ⟨w2.heap.size, 1, none⟩ = some (.int .i64 s) := World.cell?_alloc_at _ _ _ _ rfl
    have B2 : Below w.heap.size w (w2.alloc (Obj.cells #[Value.int IntKind.i64 h, Value.int IntKind.i64 s] 25)) := (hb1.tr hb2).al _
    generalize (w2.alloc (Obj.cells #[Value.int IntKind.i64 h, Value.int IntKind.i64 s] 25)) = W3 at *
    go_region_held3 (fun w' => w'.cell? ⟨w2.heap.size, 0, none⟩ = some (.int .i64 h) ∧ w'.cell? ⟨w2.heap.size, 1, none⟩ = some (.int .i64 s))
      (go_keep)
      (first
        | ((go_at_call 122; refine (c_spec_l10Ground h s _ hsq).mono ?_; rintro e w4 ⟨rfl, hb4⟩; rw [HPP.out]; have hb4' := below_drew hb4; have m0 := keepc hb4' j0; have m1 := keepc hb4' j1))
        | ((go_at_call 121; refine (c_spec_l10Short (propsP p) h _ _ _ hh HM1.out HM2.out).mono ?_; rintro e w5 ⟨u, rfl, hu, hb5⟩; have n0 := keepc hb5 m0; have n1 := keepc hb5 m1)))
    have B4 : Below w.heap.size w w4 := B2.tr hb4'
    go_wp2
    go_ret2
    exact ⟨_, by rw [HC.out]; rfl, by rw [HX.out]; exact hu.base B4.size, by (repeat (first | (with_reducible assumption) | (with_reducible exact Below.refl _ _) | (with_reducible refine Below.setCell ?_ (by first | (simp; done) | (simp; omega)) _) | (with_reducible refine Below.al ?_ _) | (with_reducible refine Below.dr ?_) | (with_reducible refine Below.drN ?_ _) | (with_reducible refine Below.tr ?_ (by with_reducible assumption))))⟩
  · have HX : Hid (entryL p h = []) := by
      have : (brC p p h == 0) = false := by simpa using hc
      unfold Hid entryL; rw [this]; rfl
    go_enter Tryz.func88, Tryz.ntmps88
    go_wp2_with fail
    refine (c_spec_l08Code p h _ _ HR.out).mono ?_; rintro e w1 ⟨rfl, hb1⟩
    go_wp2
    go_ret2
    exact ⟨_, rfl, by rw [HX.out]; exact OwnI.nil _ rfl, hb1⟩
set_option maxHeartbeats 1000000 in
set_option maxRecDepth 100000 in
theorem c_spec_ExitOf (p : List Int) (h : Int) (v : Value) (w : World) (hr : RdI w v p) :
    Calls Tryz.prog 90 #[v, .int .i64 h] w fun e w' => ∃ u, e = .returned (.tuple #[u, .int .i64 (brC p p h)]) ∧ OwnI1 w.heap.size w' u (exitL p h) ∧ Below w.heap.size w w' := by
  have HR := Lib.hid hr
  clear hr
  cases hc : (brC p p h != 0)
  · have hc0 : brC p p h = 0 := by simpa using hc
    have HX : Hid (exitL p h = shortL h (stM p 0 h) (groundI (propsP p))) := by unfold Hid exitL; rw [hc0]; rfl
    have HC := Lib.hid hc0
    obtain ⟨⟨hv, _⟩, hh, ⟨hp, _⟩, _⟩ := brC_ok hc0
    have hpb := props_bd hv hh hp
    have HM1 := Lib.hid (ground_mem hh hpb)
    have HM2 := Lib.hid (stM_mem hv 0 hh hp)
    have HPP := Lib.hid (stM_pop hv 0 hh hp)
    have hsq := mask_bd hh (stM_mem hv 0 hh hp)
    have HV := Lib.hid hv
    clear hc0 hv hp
    go_enter Tryz.func90, Tryz.ntmps90
    go_wp2_with fail
    refine (c_spec_l08Code p h _ _ HR.out).mono ?_; rintro e w1 ⟨rfl, hb1⟩
    go_wp2_with fail
    refine (c_spec_l08Of p 0 h _ _ (HR.out.below hb1) HV.out (by omega) hh).mono ?_; rintro e w2 ⟨rfl, hb2⟩
    generalize hsm : stM p 0 h = s at *
    go_wp2_with fail
    have j0 : (w2.alloc (Obj.cells #[Value.int IntKind.i64 h, Value.int IntKind.i64 s] 25)).cell? ⟨w2.heap.size, 0, none⟩ = some (.int .i64 h) := World.cell?_alloc_at _ _ _ _ rfl
    have j1 : (w2.alloc (Obj.cells #[Value.int IntKind.i64 h, Value.int IntKind.i64 s] 25)).cell? ⟨w2.heap.size, 1, none⟩ = some (.int .i64 s) := World.cell?_alloc_at _ _ _ _ rfl
    have B2 : Below w.heap.size w (w2.alloc (Obj.cells #[Value.int IntKind.i64 h, Value.int IntKind.i64 s] 25)) := (hb1.tr hb2).al _
    generalize (w2.alloc (Obj.cells #[Value.int IntKind.i64 h, Value.int IntKind.i64 s] 25)) = W3 at *
    go_region_held3 (fun w' => w'.cell? ⟨w2.heap.size, 0, none⟩ = some (.int .i64 h) ∧ w'.cell? ⟨w2.heap.size, 1, none⟩ = some (.int .i64 s))
      (go_keep)
      (first
        | ((go_at_call 122; refine (c_spec_l10Ground h s _ hsq).mono ?_; rintro e w4 ⟨rfl, hb4⟩; rw [HPP.out]; have hb4' := below_drew hb4; have m0 := keepc hb4' j0; have m1 := keepc hb4' j1))
        | ((go_at_call 121; refine (c_spec_l10Short (propsP p) h _ _ _ hh HM2.out HM1.out).mono ?_; rintro e w5 ⟨u, rfl, hu, hb5⟩; have n0 := keepc hb5 m0; have n1 := keepc hb5 m1)))
    have B4 : Below w.heap.size w w4 := B2.tr hb4'
    go_wp2
    go_ret2
    exact ⟨_, by rw [HC.out]; rfl, by rw [HX.out]; exact hu.base B4.size, by (repeat (first | (with_reducible assumption) | (with_reducible exact Below.refl _ _) | (with_reducible refine Below.setCell ?_ (by first | (simp; done) | (simp; omega)) _) | (with_reducible refine Below.al ?_ _) | (with_reducible refine Below.dr ?_) | (with_reducible refine Below.drN ?_ _) | (with_reducible refine Below.tr ?_ (by with_reducible assumption))))⟩
  · have HX : Hid (exitL p h = []) := by
      have : (brC p p h == 0) = false := by simpa using hc
      unfold Hid exitL; rw [this]; rfl
    go_enter Tryz.func90, Tryz.ntmps90
    go_wp2_with fail
    refine (c_spec_l08Code p h _ _ HR.out).mono ?_; rintro e w1 ⟨rfl, hb1⟩
    go_wp2
    go_ret2
    exact ⟨_, rfl, by rw [HX.out]; exact OwnI.nil _ rfl, hb1⟩
theorem c_spec_l10Bridge (a b : List Int) (h : Int) (v1 v2 : Value) (w : World) (hr1 : RdI w v1 a) (hr2 : RdI w v2 b) (hc : brC a b h = 0) :
    Calls Tryz.prog 89 #[v1, v2, .int .i64 h] w fun e w' => ∃ u, e = .returned u ∧ OwnI1 w.heap.size w' u (bridgeL a b h) ∧ Below w.heap.size w w' := by
  have HR1 := Lib.hid hr1
  have HR2 := Lib.hid hr2
  obtain ⟨⟨hva, hvb⟩, hh, ⟨hpa, hpb⟩, he⟩ := brC_ok hc
  have HM1 := Lib.hid (stM_mem hva 0 hh hpa)
  have HM2 : Hid (stM b 0 h ∈ maskL (propsP a) h) := by have h2 := stM_mem hvb 0 hh hpb; rw [← he] at h2; exact h2
  have HVA := Lib.hid hva
  have HVB := Lib.hid hvb
  have HX : Hid (bridgeL a b h = shortL h (stM a 0 h) (stM b 0 h)) := rfl
  clear hr1 hr2 hc hva hvb hpa hpb he
  go_enter Tryz.func89, Tryz.ntmps89
  go_wp2_with fail
  refine (c_spec_l08Of a 0 h _ _ HR1.out HVA.out (by omega) hh).mono ?_; rintro e w1 ⟨rfl, hb1⟩
  go_wp2_with fail
  refine (c_spec_l08Of b 0 h _ _ (HR2.out.below hb1) HVB.out (by omega) hh).mono ?_; rintro e w2 ⟨rfl, hb2⟩
  go_wp2_with fail
  refine (c_spec_l10Short (propsP a) h _ _ _ hh HM1.out HM2.out).mono ?_; rintro e w3 ⟨u, rfl, hu, hb3⟩
  have B2 := hb1.tr hb2
  go_wp2
  go_ret
  exact ⟨_, rfl, by rw [HX.out]; exact hu.base B2.size, B2.tr hb3⟩
end Go.Proofs.YtioemkdapoombaaGreatDoor
