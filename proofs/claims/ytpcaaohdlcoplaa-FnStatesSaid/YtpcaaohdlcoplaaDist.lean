/- Contracts on distances of states. -/
import Derived.Test.YtpcaaohdlcoplaaShortS
import Derived.Test.YtpcaaohdlcoplaaIndex
namespace Go.Proofs.Ytpcaaohdlcoplaa
open Go.ChangeShapes Go.WideShapes Go.ChangeAt Go.RowKit
set_option linter.unusedVariables false
set_option linter.unusedSimpArgs false
/-- the distances of all states of the graph from one -/
noncomputable def distL (h m : Int) : List Int := (maskL (popI m) h).map (farM h m)
noncomputable def distX (h m : Int) : List Int := bif validB h m then distL h m else []
theorem distL_len (h m : Int) : (distL h m).length = (maskL (popI m) h).length := by simp [distL]
set_option maxHeartbeats 4000000 in
set_option maxRecDepth 100000 in
theorem c_spec_l09From (h m : Int) (w : World) (hv : validB h m = true) :
    Calls Try.prog 57 #[.agg #[.int .i64 h, .int .i64 m]] w fun e w' => ∃ v, e = .returned v ∧ OwnI1 w.heap.size w' v (distL h m) ∧ Below w.heap.size w w' := by
  have hk := valid_iff hv
  have hmem := mem_own hv
  have HK := Lib.hid hk
  have HMEM := Lib.hid hmem
  have hh1 : 1 ≤ h ∧ h ≤ 10 := hk.1
  have hmq : 0 ≤ m ∧ m < 1024 := mask_bd hk.1 hmem
  have HX := Lib.hid (arcs_bd (n := popI m) hh1)
  have HF : Hid (farL (maskL (popI m) h).length (arcsL (maskL (popI m) h) h) ((idx (maskL (popI m) h) m : Nat) : Int) = distL h m) := farL_eq hh1 hmem
  have hlen := maskL_len (popI m) h hh1
  have hidx := idx_lt hmem
  have hXl := arcs_len' (popI m) h hh1
  clear hk hmem
  go_enter Try.func57, Try.ntmps57
  have k0 : (w.alloc (Obj.cells #[Value.int IntKind.i64 h, Value.int IntKind.i64 m] 35)).cell? ⟨w.heap.size, 0, none⟩ = some (.int .i64 h) := World.cell?_alloc_at _ _ _ _ rfl
  have k1 : (w.alloc (Obj.cells #[Value.int IntKind.i64 h, Value.int IntKind.i64 m] 35)).cell? ⟨w.heap.size, 1, none⟩ = some (.int .i64 m) := World.cell?_alloc_at _ _ _ _ rfl
  have hz1 : w.heap.size < (w.alloc (Obj.cells #[Value.int IntKind.i64 h, Value.int IntKind.i64 m] 35)).heap.size := by simp
  have B1 : Below w.heap.size w (w.alloc (Obj.cells #[Value.int IntKind.i64 h, Value.int IntKind.i64 m] 35)) := by (repeat (first | (with_reducible assumption) | (with_reducible exact Below.refl _ _) | (with_reducible refine Below.setCell ?_ (by first | (simp; done) | (simp; omega)) _) | (with_reducible refine Below.al ?_ _) | (with_reducible refine Below.dr ?_) | (with_reducible refine Below.drN ?_ _) | (with_reducible refine Below.tr ?_ (by with_reducible assumption))))
  go_wp2_with fail
  go_region_held3 (fun w' => w'.cell? ⟨w.heap.size, 0, none⟩ = some (.int .i64 h) ∧ w'.cell? ⟨w.heap.size, 1, none⟩ = some (.int .i64 m))
    (go_keep)
    (first
      | ((go_at_call 60; refine (c_spec_l08Count m _ hmq).mono ?_; rintro e w2 ⟨rfl, rfl⟩))
      | ((go_at_call 59; refine (c_spec_l09Masks (popI m) h _ (by omega)).mono ?_; rintro e w3 ⟨v3, rfl, ho3, hb3⟩; have hb3' := below_drew hb3; have hz3 := Nat.lt_of_lt_of_le hz1 hb3'.size; have p0 := (hb3'.cell (p := ⟨w.heap.size, 0, none⟩) hz1).trans k0; have p1 := (hb3'.cell (p := ⟨w.heap.size, 1, none⟩) hz1).trans k1)))
  have hrM := ho3.rd
  have hsoM := Lib.hid (maskL_sorted (popI m) h)
  have B3 : Below w.heap.size w w3 := by (repeat (first | (with_reducible assumption) | (with_reducible exact Below.refl _ _) | (with_reducible refine Below.setCell ?_ (by first | (simp; done) | (simp; omega)) _) | (with_reducible refine Below.al ?_ _) | (with_reducible refine Below.dr ?_) | (with_reducible refine Below.drN ?_ _) | (with_reducible refine Below.tr ?_ (by with_reducible assumption))))
  have hr3 : RdI w3.drew v3 (maskL (popI m) h) := hrM
  clear hb3' hb3
  go_wp2_with fail
  go_region_held3 (fun w' => w'.cell? ⟨w.heap.size, 0, none⟩ = some (.int .i64 h) ∧ w'.cell? ⟨w.heap.size, 1, none⟩ = some (.int .i64 m))
    (go_keep)
    (first
      | ((go_at_call 100; refine (c_spec_l09Arcs (popI m) h _ _ hh1 hr3).mono ?_; rintro e w4 ⟨v4, rfl, ho4, hb4⟩; have hb4' := below_drew hb4; have hz4 := Nat.lt_of_lt_of_le hz3 hb4'.size; have r0 := (hb4'.cell (p := ⟨w.heap.size, 0, none⟩) hz3).trans p0; have r1 := (hb4'.cell (p := ⟨w.heap.size, 1, none⟩) hz3).trans p1; have hr4 := hrM.below hb4'))
      | ((go_at_call 58; refine (c_spec_l09Find (maskL (popI m) h) m _ _ hr4 hsoM.out HMEM.out (by omega)).mono ?_; rintro e w5 ⟨rfl, rfl⟩))
      | ((go_at_call 99; refine (c_spec_l09Far (maskL (popI m) h) (arcsL (maskL (popI m) h) h) ((idx (maskL (popI m) h) m : Nat) : Int) _ _ _ hr4 (OwnRow.rd rowA_len ho4) HX.out (by omega) (by omega) (by omega)).mono ?_; rintro e w6 ⟨v6, rfl, ho6, hb6⟩; have r2 := (hb6.cell (p := ⟨w.heap.size, 0, none⟩) hz4).trans r0; have r3 := (hb6.cell (p := ⟨w.heap.size, 1, none⟩) hz4).trans r1)))
  have hs4 := hb4'.size
  have hs3 := B3.size
  go_wp2
  go_ret
  exact ⟨_, rfl, by rw [← HF.out]; exact ho6.base (by omega), by (repeat (first | (with_reducible assumption) | (with_reducible exact Below.refl _ _) | (with_reducible refine Below.setCell ?_ (by first | (simp; done) | (simp; omega)) _) | (with_reducible refine Below.al ?_ _) | (with_reducible refine Below.dr ?_) | (with_reducible refine Below.drN ?_ _) | (with_reducible refine Below.tr ?_ (by with_reducible assumption))))⟩
set_option maxHeartbeats 4000000 in
theorem c_spec_DistancesFrom (h m : Int) (w : World) :
    Calls Try.prog 12 #[.agg #[.int .i64 h, .int .i64 m]] w fun e w' => ∃ v, e = .returned (.tuple #[v, .int .i64 (validC h m)]) ∧ OwnI1 w.heap.size w' v (distX h m) ∧ Below w.heap.size w w' := by
  cases hv : validB h m
  · have HX : Hid (distX h m = []) := by unfold Hid distX; rw [hv]; rfl
    have HV : Hid (validC h m = 1) := by unfold Hid validC; rw [hv]; rfl
    go_enter Try.func12, Try.ntmps12
    go_wp2_with (go_at_call 61; refine (c_spec_l08Ok _ _ _).mono ?_; rintro e w1 ⟨rfl, hb⟩; obtain ⟨hc, hf⟩ := bcell hb)
    go_ret2
    exact ⟨_, by rw [HV.out]; rfl, by rw [HX.out]; exact OwnI.nil _ rfl, by (repeat (first | (with_reducible assumption) | (with_reducible exact Below.refl _ _) | (with_reducible refine Below.setCell ?_ (by first | (simp; done) | (simp; omega)) _) | (with_reducible refine Below.al ?_ _) | (with_reducible refine Below.dr ?_) | (with_reducible refine Below.drN ?_ _) | (with_reducible refine Below.tr ?_ (by with_reducible assumption))))⟩
  · have HX : Hid (distX h m = distL h m) := by unfold Hid distX; rw [hv]; rfl
    have HV : Hid (validC h m = 0) := by unfold Hid validC; rw [hv]; rfl
    have HB := Lib.hid hv
    go_enter Try.func12, Try.ntmps12
    go_wp2_with (first | (go_at_call 61; refine (c_spec_l08Ok _ _ _).mono ?_; rintro e w1 ⟨rfl, hb⟩; obtain ⟨hc, hf⟩ := bcell hb) | (go_at_call 57; refine (c_spec_l09From _ _ _ HB.out).mono ?_; rintro e w2 ⟨v, rfl, hown, hb2⟩))
    go_ret2
    exact ⟨_, by rw [HV.out]; rfl, by rw [HX.out]; exact hown.base (by have := hb.size; simp at this; omega), by (repeat (first | (with_reducible assumption) | (with_reducible exact Below.refl _ _) | (with_reducible refine Below.setCell ?_ (by first | (simp; done) | (simp; omega)) _) | (with_reducible refine Below.al ?_ _) | (with_reducible refine Below.dr ?_) | (with_reducible refine Below.drN ?_ _) | (with_reducible refine Below.tr ?_ (by with_reducible assumption))))⟩
theorem distL_succ {h m : Int} {k : Nat} (hk : k < (maskL (popI m) h).length) : (distL h m).take (k + 1) = (distL h m).take k ++ [farM h m ((maskL (popI m) h).getD k 0)] := by
  rw [take_snoc _ _ (by rw [distL_len]; exact hk)]
  simp [distL, List.getD, hk]
end Go.Proofs.Ytpcaaohdlcoplaa
