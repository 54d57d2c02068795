/- The law LinesX: what it rests on, part 28 of 46. -/
import Derived.Test.YtioemkdapoombaaGreatDoorQLinesX15
import Derived.Test.YtioemkdapoombaaGreatDoorQLinesX27
namespace Go.Proofs.YtioemkdapoombaaGreatDoor
open Go.ChangeShapes Go.WideShapes Go.ChangeAt Go.RowKit
set_option linter.unusedVariables false
set_option linter.unusedSimpArgs false
end Go.Proofs.YtioemkdapoombaaGreatDoor
namespace Go.Proofs.YtioemkdapoombaaGreatDoor
open Go.ChangeShapes Go.WideShapes Go.ChangeAt Go.RowKit
set_option linter.unusedVariables false
set_option linter.unusedSimpArgs false
end Go.Proofs.YtioemkdapoombaaGreatDoor
namespace Go.Proofs.YtioemkdapoombaaGreatDoor
open Go.ChangeShapes Go.WideShapes Go.ChangeAt Go.RowKit
set_option linter.unusedVariables false
set_option linter.unusedSimpArgs false
theorem RdP.part {w : World} {a : Option Addr} {n cap : Nat} {X : List Part2} (h : RdP w (.slice a n cap) X) (k : Nat) (hk : k < X.length) : ∃ b off u, a = some ⟨b, off, none⟩ ∧ w.cell? ⟨b, off + k * 2, none⟩ = some u ∧ w.cell? ⟨b, off + k * 2 + 1, none⟩ = some (.int .i64 (timR X k)) ∧ RdI w u (patR X k) := by
  obtain ⟨a', cap', he, _, hc⟩ := h
  cases he
  obtain ⟨b, off, u, ha, x0, x1, hu⟩ := hc k hk
  exact ⟨b, off, u, ha, x0, by rw [timR_at hk]; exact x1, by rw [patR_at hk]; exact hu⟩
set_option maxHeartbeats 8000000 in
set_option maxRecDepth 100000 in
theorem c_spec_l19Bridges (X : List Part2) (h : Int) (v : Value) (g : Nat) (w : World) (hr : RdP w v X) (R : RoutOk h X) (k0 : w.cell? ⟨g, 0, none⟩ = some (.int .i64 h)) (k1 : w.cell? ⟨g, 1, none⟩ = some v) :
    Calls Tryz.prog 50 #[.pointer (some ⟨g, 0, none⟩)] w fun e w' => ∃ u, e = .returned u ∧ OwnGG w.heap.size w'.heap.size w' u (brR h X) ∧ Below w.heap.size w w' := by
  have hr' := hr
  obtain ⟨a1, cap1, rfl, hl1, -⟩ := hr'
  have HRW := Lib.hid hr
  have HK0 := Lib.hid k0
  have HK1 := Lib.hid k1
  have hgw : g < w.heap.size := World.block_lt_of_cell? w _ k0
  have hxl := R.hl
  have h0 : 0 < X.length := by omega
  obtain ⟨b1, o1, u0, rfl, x0, -, hu0⟩ := hr.part 0 h0
  have x0 : w.cell? ⟨b1, o1, none⟩ = some u0 := by simpa using x0
  have hbw : b1 < w.heap.size := World.block_lt_of_cell? w _ x0
  clear hr
  have HEN : Hid (entryL (patR X 0) h = brAt h X 0) := R.entry
  have hin : (0 : Int) < (X.length : Int) := by omega
  have hw0 : ((w.alloc (Obj.cells #[] 26))).heap.size = w.heap.size + 1 := World.size_alloc _ _
  have hG0 : OwnGG w.heap.size (w.heap.size + 1) (w.alloc (Obj.cells #[] 26)) (.slice (some ⟨w.heap.size, 0, none⟩) 0 0) [] := OwnG.made rfl (Nat.le_refl _)
  have B0 : Below w.heap.size w (w.alloc (Obj.cells #[] 26)) := (Below.refl _ _).al _
  have k0a := al_c (Obj.cells #[] 26) k0
  have k1a := al_c (Obj.cells #[] 26) k1
  have x0a := al_c (Obj.cells #[] 26) x0
  go_enter Tryz.func50, Tryz.ntmps50
  go_wp2_with fail
  go_region_held3 (fun w' => w'.cell? ⟨g, 0, none⟩ = some (.int .i64 h) ∧ w'.cell? ⟨g, 1, none⟩ = some (.slice (some ⟨b1, o1, none⟩) X.length cap1) ∧ w'.cell? ⟨b1, o1, none⟩ = some u0)
    (go_keep)
    ((go_at_call 88; refine (c_spec_EntryOf (patR X 0) h _ _ ((hu0.below B0).below ((Below.refl _ _).dr))).mono ?_; rintro e w2 ⟨u2, rfl, ho2, hb2⟩; have hb2' := below_drew hb2; have q0 := keepc hb2' k0a; have q1 := keepc hb2' k1a; have q2 := keepc hb2' x0a))
  rw [HEN.out, show (w.alloc (Obj.cells #[] 26)).drew.heap.size = w.heap.size + 1 from hw0] at ho2
  have hG2 := hG0.below hb2'
  have B2 := B0.tr hb2'
  have hone := OwnI.one ho2
  have hlt2 := World.ownsRow.lt ho2
  have hrr := ho2.rd
  obtain ⟨ar, capr, rfl, -, -⟩ := hrr
  have hs2 := hb2'.size
  rw [hw0] at hs2
  clear k0 k1 x0 k0a k1a x0a hG0
  have hbr1 : Hid (brTo h X 1 = [] ++ [brAt h X 0]) := by unfold Hid; rw [brTo_succ]; rfl
  go_wp2_with (at_builtin; refine push_g rfl _ _ _ rfl Tryz.underlying66 infoG1 _ _ _ _ w2 rfl rfl (by exact hG2) (by exact ho2.base (by omega)) (fun b hb => (hlt2 b hb).1) hone (by simp) (by omega) ?_; intro v9 w9 hG9 hg9 hat9 hs9; refine stop_of ?_)
  unfold Stopped
  rw [← hbr1.out] at hG9
  have hgl := fun k (hk : Value.ownBlock (.slice (some ⟨w.heap.size, 0, none⟩) 0 0) = some k) => (OwnG.lt hG2 k hk)
  have B9 : Below w.heap.size w w9 := B2.grown hg9 (by omega) (fun q hq => (hgl q hq).1)
  have k0 : w9.cell? ⟨g, 0, none⟩ = some (.int .i64 h) := grown_c hg9 q0 (fun e => by have := (hgl _ e).1; omega)
  have k1 : w9.cell? ⟨g, 1, none⟩ = some (.slice (some ⟨b1, o1, none⟩) X.length cap1) := grown_c hg9 q1 (fun e => by have := (hgl _ e).1; omega)
  have HG9 : Hid (OwnGG w.heap.size w9.heap.size w9 v9 (brTo h X 1)) := hG9
  clear hG9 q0 q1 q2 hG2 ho2 hlt2 hone hgl hg9 hat9
  have HRL := Lib.hid (fun k => R.brlen (k := k))
  have HST := Lib.hid (fun k => brTo_succ h X k)
  have HLN := Lib.hid (fun k => brTo_len h X k)
  go_wp2_with fail
  go_loopw [3, 7] (fun out i wr => ∃ k : Nat, 1 ≤ k ∧ k ≤ X.length ∧ i = .int .i64 k ∧ OwnGG w.heap.size wr.heap.size wr out (brTo h X k) ∧ Below w.heap.size w wr) (fun _ i _ => X.length - (intOf i).toNat)
  case atStart => exact ⟨1, by omega, by omega, rfl, HG9.out, B9⟩
  case round =>
    clear HG9
    obtain ⟨k, hk1, hk, rfl, hout, hb⟩ := hrel
    have k0 : wr.cell? ⟨g, 0, none⟩ = some (.int .i64 h) := (hb.cell (p := ⟨g, 0, none⟩) hgw).trans HK0.out
    have k1 : wr.cell? ⟨g, 1, none⟩ = some (.slice (some ⟨b1, o1, none⟩) X.length cap1) := (hb.cell (p := ⟨g, 1, none⟩) hgw).trans HK1.out
    obtain ⟨wo, rfl⟩ : ∃ wo : World, wo = wr := ⟨_, rfl⟩
    have hglt := OwnG.lt hout
    have hbs := hb.size
    obtain ⟨gz, nz, cz, hvz, -, -, -, -, hgz, -⟩ := hout.shape (fun e => by have := congrArg List.length e; rw [HLN.out, List.length_nil] at this; omega)
    subst hvz
    by_cases hlt : k < X.length
    · obtain ⟨j, rfl⟩ : ∃ j, k = j + 1 := ⟨k - 1, by omega⟩
      obtain ⟨b2, o2, ua, he, x0, -, hua⟩ := HRW.out.part j (by omega)
      cases he
      obtain ⟨b3, o3, ub, he, y0, -, hub⟩ := HRW.out.part (j + 1) hlt
      cases he
      have HX0 := Lib.hid x0
      have HY0 := Lib.hid y0
      have x0 : wo.cell? ⟨b1, o1 + j * 2, none⟩ = some ua := (hb.cell (p := ⟨b1, o1 + j * 2, none⟩) hbw).trans x0
      have y0 : wo.cell? ⟨b1, o1 + (j + 1) * 2, none⟩ = some ub := (hb.cell (p := ⟨b1, o1 + (j + 1) * 2, none⟩) hbw).trans y0
      have hua := hua.below hb
      have hub := hub.below hb
      have hbc := R.br (show j < X.length by omega) hlt
      have HMI := Lib.hid (R.mid hlt)
      have hj0 : (0 : Int) ≤ ((j + 1 : Nat) : Int) - 1 := by omega
      have hj1 : ((j + 1 : Nat) : Int) - 1 < (X.length : Int) := by omega
      have hj2 : (0 : Int) ≤ ((j + 1 : Nat) : Int) := by omega
      have hj3 : ((j + 1 : Nat) : Int) < (X.length : Int) := by omega
      have hq0 : (0 : Int) ≤ (j : Int) := by omega
      have hq1 : (j : Int) < (X.length : Int) := by omega
      have hq2 : (0 : Int) ≤ (j : Int) + 1 := by omega
      have hq3 : (j : Int) + 1 < (X.length : Int) := by omega
      have hwj : IntKind.i64.wrap (j : Int) = (j : Int) := wraps_i64 _ (by omega) (by omega)
      clear hj0 hj1 hj2 hj3
      go_wp2_with fail
      refine wp_region_noPanic ?_
      refine wp_region_held_drew (S := fun w' => w'.cell? ⟨g, 0, none⟩ = some (.int .i64 h) ∧ w'.cell? ⟨g, 1, none⟩ = some (.slice (some ⟨b1, o1, none⟩) X.length cap1) ∧ w'.cell? ⟨b1, o1 + j * 2, none⟩ = some ua ∧ w'.cell? ⟨b1, o1 + (j + 1) * 2, none⟩ = some ub) (by kernel_rfl) ?_ (fun hHeld => ?_)
      · exact ⟨k0, k1, x0, y0⟩
      (refine wpAnyH_take (i := 0) (v := ?tv5) rfl (by kernel_rfl) (by kernel_rfl) (by kernel_rfl) (fun _ _ _ h => h) (Or.inl ⟨by rfl, ?thy5⟩) (by assumption) ?trest5; case thy5 => (intro w hSw; (try dsimp only at hSw); go_simp; (try with_reducible rfl)); (try simp only [Act.put, List.getElem_toArray, List.getElem_cons_zero, List.getElem_cons_succ, List.setIfInBounds_toArray, List.set_cons_zero, List.set_cons_succ])); (refine wpAnyH_take (i := 1) (v := ?tv6) rfl (by kernel_rfl) (by kernel_rfl) (by kernel_rfl) (fun _ _ _ h => h) (Or.inl ⟨by rfl, ?thy6⟩) (by assumption) ?trest6; case thy6 => (intro w hSw; (try dsimp only at hSw); go_simp; (try with_reducible rfl)); (try simp only [Act.put, List.getElem_toArray, List.getElem_cons_zero, List.getElem_cons_succ, List.setIfInBounds_toArray, List.set_cons_zero, List.set_cons_succ])); (refine wpAnyH_take (i := 2) (v := ?tv7) rfl (by kernel_rfl) (by kernel_rfl) (by kernel_rfl) (fun _ _ _ h => h) (Or.inl ⟨by rfl, ?thy7⟩) (by assumption) ?trest7; case thy7 => (intro w hSw; (try dsimp only at hSw); go_simp; (try with_reducible rfl)); (try simp only [Act.put, List.getElem_toArray, List.getElem_cons_zero, List.getElem_cons_succ, List.setIfInBounds_toArray, List.set_cons_zero, List.set_cons_succ])); (refine wpAnyH_take (i := 3) (v := ?tv8) rfl (by kernel_rfl) (by kernel_rfl) (by kernel_rfl) (fun _ _ _ h => h) (Or.inl ⟨by rfl, ?thy8⟩) (by assumption) ?trest8; case thy8 => (intro w hSw; (try dsimp only at hSw); go_simp; (try with_reducible rfl)); (try simp only [Act.put, List.getElem_toArray, List.getElem_cons_zero, List.getElem_cons_succ, List.setIfInBounds_toArray, List.set_cons_zero, List.set_cons_succ])); (refine wpAnyH_take (i := 4) (v := ?tv9) rfl (by kernel_rfl) (by kernel_rfl) (by kernel_rfl) (fun _ _ _ h => h) (Or.inl ⟨by rfl, ?thy9⟩) (by assumption) ?trest9; case thy9 => (intro w hSw; (try dsimp only at hSw); go_simp; (try with_reducible rfl)); (try simp only [Act.put, List.getElem_toArray, List.getElem_cons_zero, List.getElem_cons_succ, List.setIfInBounds_toArray, List.set_cons_zero, List.set_cons_succ])); (refine wpAnyH_take (i := 5) (v := ?tv10) rfl (by kernel_rfl) (by kernel_rfl) (by kernel_rfl) (fun _ _ _ h => h) (Or.inl ⟨by rfl, ?thy10⟩) (by assumption) ?trest10; case thy10 => (intro w hSw; (try dsimp only at hSw); go_simp; (try with_reducible rfl)); (try simp only [Act.put, List.getElem_toArray, List.getElem_cons_zero, List.getElem_cons_succ, List.setIfInBounds_toArray, List.set_cons_zero, List.set_cons_succ])); (refine wpAnyH_take (i := 6) (v := ?tv11) rfl (by kernel_rfl) (by kernel_rfl) (by kernel_rfl) (fun _ _ _ h => h) (Or.inl ⟨by rfl, ?thy11⟩) (by assumption) ?trest11; case thy11 => (intro w hSw; (try dsimp only at hSw); go_simp; (try with_reducible rfl)); (try simp only [Act.put, List.getElem_toArray, List.getElem_cons_zero, List.getElem_cons_succ, List.setIfInBounds_toArray, List.set_cons_zero, List.set_cons_succ])); (refine wpAnyH_take (i := 7) (v := ?tv12) rfl (by kernel_rfl) (by kernel_rfl) (by kernel_rfl) (fun _ _ _ h => h) (Or.inl ⟨by rfl, ?thy12⟩) (by assumption) ?trest12; case thy12 => (intro w hSw; (try dsimp only at hSw); go_simp; (try with_reducible rfl)); (try simp only [Act.put, List.getElem_toArray, List.getElem_cons_zero, List.getElem_cons_succ, List.setIfInBounds_toArray, List.set_cons_zero, List.set_cons_succ])); (refine wpAnyH_take (i := 8) (v := ?tv13) rfl (by kernel_rfl) (by kernel_rfl) (by kernel_rfl) (fun _ _ _ h => h) (Or.inl ⟨by rfl, ?thy13⟩) (by assumption) ?trest13; case thy13 => (intro w hSw; (try dsimp only at hSw); go_simp; (try with_reducible rfl)); (try simp only [Act.put, List.getElem_toArray, List.getElem_cons_zero, List.getElem_cons_succ, List.setIfInBounds_toArray, List.set_cons_zero, List.set_cons_succ])); (refine wpAnyH_take (i := 9) (v := ?tv14) rfl (by kernel_rfl) (by kernel_rfl) (by kernel_rfl) (fun _ _ _ h => h) (Or.inl ⟨by rfl, ?thy14⟩) (by assumption) ?trest14; case thy14 => (intro w hSw; (try dsimp only at hSw); go_simp; (try with_reducible rfl)); (try simp only [Act.put, List.getElem_toArray, List.getElem_cons_zero, List.getElem_cons_succ, List.setIfInBounds_toArray, List.set_cons_zero, List.set_cons_succ])); (refine wpAnyH_take (i := 10) (v := ?tv15) rfl (by kernel_rfl) (by kernel_rfl) (by kernel_rfl) (fun _ _ _ h => h) (Or.inl ⟨by rfl, ?thy15⟩) (by assumption) ?trest15; case thy15 => (intro w hSw; (try dsimp only at hSw); go_simp; (try with_reducible rfl)); (try simp only [Act.put, List.getElem_toArray, List.getElem_cons_zero, List.getElem_cons_succ, List.setIfInBounds_toArray, List.set_cons_zero, List.set_cons_succ])); (refine wpAnyH_take (i := 11) (v := ?tv16) rfl (by kernel_rfl) (by kernel_rfl) (by kernel_rfl) (fun _ _ _ h => h) (Or.inl ⟨by rfl, ?thy16⟩) (by assumption) ?trest16; case thy16 => (intro w hSw; (try dsimp only at hSw); go_simp; (try with_reducible rfl)); (try simp only [Act.put, List.getElem_toArray, List.getElem_cons_zero, List.getElem_cons_succ, List.setIfInBounds_toArray, List.set_cons_zero, List.set_cons_succ])); (refine wpAnyH_take (i := 12) (v := ?tv17) rfl (by kernel_rfl) (by kernel_rfl) (by kernel_rfl) (fun _ _ _ h => h) (Or.inl ⟨by rfl, ?thy17⟩) (by assumption) ?trest17; case thy17 => (intro w hSw; (try dsimp only at hSw); go_simp; (try with_reducible rfl)); (try simp only [Act.put, List.getElem_toArray, List.getElem_cons_zero, List.getElem_cons_succ, List.setIfInBounds_toArray, List.set_cons_zero, List.set_cons_succ])); (refine wpAnyH_take (i := 13) (v := ?tv18) rfl (by kernel_rfl) (by kernel_rfl) (by kernel_rfl) (fun _ _ _ h => h) (Or.inl ⟨by rfl, ?thy18⟩) (by assumption) ?trest18; case thy18 => (intro w hSw; (try dsimp only at hSw); go_simp; (try with_reducible rfl)); (try simp only [Act.put, List.getElem_toArray, List.getElem_cons_zero, List.getElem_cons_succ, List.setIfInBounds_toArray, List.set_cons_zero, List.set_cons_succ])); (refine wpAnyH_take (i := 14) (v := ?tv19) rfl (by kernel_rfl) (by kernel_rfl) (by kernel_rfl) (fun _ _ _ h => h) (Or.inl ⟨by rfl, ?thy19⟩) (by assumption) ?trest19; case thy19 => (intro w hSw; (try dsimp only at hSw); go_simp; (try with_reducible rfl)); (try simp only [Act.put, List.getElem_toArray, List.getElem_cons_zero, List.getElem_cons_succ, List.setIfInBounds_toArray, List.set_cons_zero, List.set_cons_succ])); (refine wpAnyH_take (i := 15) (v := ?tv20) rfl (by kernel_rfl) (by kernel_rfl) (by kernel_rfl) (fun _ _ _ h => h) (Or.inl ⟨by rfl, ?thy20⟩) (by assumption) ?trest20; case thy20 => (intro w hSw; (try dsimp only at hSw); go_simp; (try with_reducible rfl)); (try simp only [Act.put, List.getElem_toArray, List.getElem_cons_zero, List.getElem_cons_succ, List.setIfInBounds_toArray, List.set_cons_zero, List.set_cons_succ])); (refine wpAnyH_take (i := 16) (v := ?tv21) rfl (by kernel_rfl) (by kernel_rfl) (by kernel_rfl) (fun _ _ _ h => h) (Or.inl ⟨by rfl, ?thy21⟩) (by assumption) ?trest21; case thy21 => (intro w hSw; (try dsimp only at hSw); go_simp; (try with_reducible rfl)); (try simp only [Act.put, List.getElem_toArray, List.getElem_cons_zero, List.getElem_cons_succ, List.setIfInBounds_toArray, List.set_cons_zero, List.set_cons_succ])); (refine wpAnyH_take (i := 17) (v := ?tv22) rfl (by kernel_rfl) (by kernel_rfl) (by kernel_rfl) (fun _ _ _ h => h) (Or.inl ⟨by rfl, ?thy22⟩) (by assumption) ?trest22; case thy22 => (intro w hSw; (try dsimp only at hSw); go_simp; (try with_reducible rfl)); (try simp only [Act.put, List.getElem_toArray, List.getElem_cons_zero, List.getElem_cons_succ, List.setIfInBounds_toArray, List.set_cons_zero, List.set_cons_succ])); (refine wpAnyH_take (i := 18) (v := ?tv23) rfl (by kernel_rfl) (by kernel_rfl) (by kernel_rfl) (fun _ _ _ h => h) (Or.inl ⟨by rfl, ?thy23⟩) (by assumption) ?trest23; case thy23 => (intro w hSw; (try dsimp only at hSw); go_simp; (try with_reducible rfl)); (try simp only [Act.put, List.getElem_toArray, List.getElem_cons_zero, List.getElem_cons_succ, List.setIfInBounds_toArray, List.set_cons_zero, List.set_cons_succ])); (refine wpAnyH_take (i := 19) (v := ?tv24) rfl (by kernel_rfl) (by kernel_rfl) (by kernel_rfl) (fun _ _ _ h => h) (Or.inl ⟨by rfl, ?thy24⟩) (by assumption) ?trest24; case thy24 => (intro w hSw; (try dsimp only at hSw); go_simp; (try with_reducible rfl)); (try simp only [Act.put, List.getElem_toArray, List.getElem_cons_zero, List.getElem_cons_succ, List.setIfInBounds_toArray, List.set_cons_zero, List.set_cons_succ])); (refine wpAnyH_take (i := 20) (v := ?tv25) rfl (by kernel_rfl) (by kernel_rfl) (by kernel_rfl) (fun _ _ _ h => h) (Or.inl ⟨by rfl, ?thy25⟩) (by assumption) ?trest25; case thy25 => (intro w hSw; (try dsimp only at hSw); go_simp; (try with_reducible rfl)); (try simp only [Act.put, List.getElem_toArray, List.getElem_cons_zero, List.getElem_cons_succ, List.setIfInBounds_toArray, List.set_cons_zero, List.set_cons_succ])); (refine wpAnyH_take (i := 21) (v := ?tv26) rfl (by kernel_rfl) (by kernel_rfl) (by kernel_rfl) (fun _ _ _ h => h) (Or.inl ⟨by rfl, ?thy26⟩) (by assumption) ?trest26; case thy26 => (intro w hSw; (try dsimp only at hSw); go_simp; (try with_reducible rfl)); (try simp only [Act.put, List.getElem_toArray, List.getElem_cons_zero, List.getElem_cons_succ, List.setIfInBounds_toArray, List.set_cons_zero, List.set_cons_succ]))
      refine wpAnyH_ready (rs := [22]) (by kernel_rfl) (by simp) ?_; refine AllReadyH.cons (i := 22) rfl (fun K hK => ?_) AllReadyH.nil
      go_simp
      refine (c_spec_l10Bridge (patR X j) (patR X (j + 1)) h ua ub _ (hua.below ((Below.refl _ _).dr)) (hub.below ((Below.refl _ _).dr)) hbc).mono ?_; rintro e w6 ⟨u6, rfl, ho6, hb6⟩
      rw [HMI.out] at ho6
      have hb6 := below_drew hb6
      have q0 := keepc hb6 k0
      have q1 := keepc hb6 k1
      have q2 := keepc hb6 x0
      have q3 := keepc hb6 y0
      refine hK.out _ _ ⟨q0, q1, q2, q3⟩ (fun hHeld => ?_)
      clear hK K
      (try simp only [Act.put, List.getElem_toArray, List.getElem_cons_zero, List.getElem_cons_succ, List.setIfInBounds_toArray, List.set_cons_zero, List.set_cons_succ])
      have hone := OwnI.one ho6
      have hlt6 := World.ownsRow.lt ho6
      have hrr := ho6.rd
      obtain ⟨ar, capr, rfl, -, -⟩ := hrr
      have hs6 := hb6.size
      have hout6 := hout.below hb6
      refine wpAnyH_ready (rs := [23]) (by kernel_rfl) (by simp) ?_; refine AllReadyH.cons (i := 23) rfl (fun K hK => ?_) AllReadyH.nil
      go_simp
      refine hK.out _ _ ⟨al_c _ q0, al_c _ q1, al_c _ q2, al_c _ q3⟩ (fun hHeld => ?_)
      clear hK K
      (try simp only [Act.put, List.getElem_toArray, List.getElem_cons_zero, List.getElem_cons_succ, List.setIfInBounds_toArray, List.set_cons_zero, List.set_cons_succ])
      refine wpAnyH_ready (rs := [24]) (by kernel_rfl) (by simp) ?_; refine AllReadyH.cons (i := 24) rfl (fun K hK => ?_) AllReadyH.nil
      refine step_push_g rfl _ _ _ rfl Tryz.underlying66 infoG1 _ _ _ _ w6 rfl rfl (by exact hout6) (by exact ho6.base (by exact hbs)) (fun b hb => (hlt6 b hb).1) hone (by rw [HLN.out]; omega) (by omega) ?_
      intro v' w9 hG9 hg9 hat9 hs9
      rw [← HST.out] at hG9
      have B9 : Below w.heap.size w w9 := (hb.tr hb6).grown hg9 (by omega) (fun q hq => (hglt q hq).1)
      refine hK.out _ _ ⟨(B9.cell (p := ⟨g, 0, none⟩) hgw).trans HK0.out, (B9.cell (p := ⟨g, 1, none⟩) hgw).trans HK1.out, (B9.cell (p := ⟨b1, o1 + j * 2, none⟩) hbw).trans HX0.out, (B9.cell (p := ⟨b1, o1 + (j + 1) * 2, none⟩) hbw).trans HY0.out⟩ (fun hHeld => ?_)
      clear hK K
      (try simp only [Act.put, List.getElem_toArray, List.getElem_cons_zero, List.getElem_cons_succ, List.setIfInBounds_toArray, List.set_cons_zero, List.set_cons_succ])
      (refine wpAnyH_take (i := 25) (v := ?tv27) rfl (by kernel_rfl) (by kernel_rfl) (by kernel_rfl) (fun _ _ _ h => h) (Or.inl ⟨by rfl, ?thy27⟩) (by assumption) ?trest27; case thy27 => (intro w hSw; (try dsimp only at hSw); go_simp; (try with_reducible rfl)); (try simp only [Act.put, List.getElem_toArray, List.getElem_cons_zero, List.getElem_cons_succ, List.setIfInBounds_toArray, List.set_cons_zero, List.set_cons_succ]))
      refine wpAnyH_done (by kernel_rfl) ?_ _
      refine NoPanic.normal ?_
      have HG10 := Lib.hid hG9
      clear hG9
      go_wp2
      go_roundw
      case rel => exact ⟨j + 1 + 1, by omega, by omega, by go_num, HG10.out, B9⟩
      case measure => simp [intOf]; omega
    · obtain rfl : k = X.length := by omega
      obtain ⟨n1, hn1⟩ : ∃ n1, X.length = n1 + 1 := ⟨X.length - 1, by omega⟩
      obtain ⟨b2, o2, ua, he, x0, -, hua⟩ := HRW.out.part n1 (by omega)
      cases he
      have x0 : wo.cell? ⟨b1, o1 + n1 * 2, none⟩ = some ua := (hb.cell (p := ⟨b1, o1 + n1 * 2, none⟩) hbw).trans x0
      have hua := hua.below hb
      have HEX : Hid (exitL (patR X n1) h = brAt h X X.length) := by have := R.exit; rw [show X.length - 1 = n1 by omega] at this; exact this
      have hqe : IntKind.i64.wrap ((X.length : Int) - 1) = (n1 : Int) := by rw [show (X.length : Int) - 1 = (n1 : Int) by omega]; exact wraps_i64 _ (by omega) (by omega)
      have HN1 := Lib.hid hn1
      have hqe2 : wrap64 ((X.length : Int) - 1) = (n1 : Int) := by unfold wrap64; omega
      have hq2 : (0 : Int) ≤ (n1 : Int) := by omega
      have hq3 : (n1 : Int) < (X.length : Int) := by omega
      clear hn1
      go_wp2_with fail
      refine wp_region_noPanic ?_
      refine wp_region_held_drew (S := fun w' => w'.cell? ⟨g, 0, none⟩ = some (.int .i64 h) ∧ w'.cell? ⟨g, 1, none⟩ = some (.slice (some ⟨b1, o1, none⟩) X.length cap1) ∧ w'.cell? ⟨b1, o1 + n1 * 2, none⟩ = some ua) (by kernel_rfl) ?_ (fun hHeld => ?_)
      · exact ⟨k0, k1, x0⟩
      (refine wpAnyH_take (i := 0) (v := ?tv28) rfl (by kernel_rfl) (by kernel_rfl) (by kernel_rfl) (fun _ _ _ h => h) (Or.inl ⟨by rfl, ?thy28⟩) (by assumption) ?trest28; case thy28 => (intro w hSw; (try dsimp only at hSw); go_simp; (try with_reducible rfl)); (try simp only [Act.put, List.getElem_toArray, List.getElem_cons_zero, List.getElem_cons_succ, List.setIfInBounds_toArray, List.set_cons_zero, List.set_cons_succ])); (refine wpAnyH_take (i := 1) (v := ?tv29) rfl (by kernel_rfl) (by kernel_rfl) (by kernel_rfl) (fun _ _ _ h => h) (Or.inl ⟨by rfl, ?thy29⟩) (by assumption) ?trest29; case thy29 => (intro w hSw; (try dsimp only at hSw); go_simp; (try with_reducible rfl)); (try simp only [Act.put, List.getElem_toArray, List.getElem_cons_zero, List.getElem_cons_succ, List.setIfInBounds_toArray, List.set_cons_zero, List.set_cons_succ])); (refine wpAnyH_take (i := 2) (v := ?tv30) rfl (by kernel_rfl) (by kernel_rfl) (by kernel_rfl) (fun _ _ _ h => h) (Or.inl ⟨by rfl, ?thy30⟩) (by assumption) ?trest30; case thy30 => (intro w hSw; (try dsimp only at hSw); go_simp; (try with_reducible rfl)); (try simp only [Act.put, List.getElem_toArray, List.getElem_cons_zero, List.getElem_cons_succ, List.setIfInBounds_toArray, List.set_cons_zero, List.set_cons_succ])); (refine wpAnyH_take (i := 3) (v := ?tv31) rfl (by kernel_rfl) (by kernel_rfl) (by kernel_rfl) (fun _ _ _ h => h) (Or.inl ⟨by rfl, ?thy31⟩) (by assumption) ?trest31; case thy31 => (intro w hSw; (try dsimp only at hSw); go_simp; (try with_reducible rfl)); (try simp only [Act.put, List.getElem_toArray, List.getElem_cons_zero, List.getElem_cons_succ, List.setIfInBounds_toArray, List.set_cons_zero, List.set_cons_succ])); (refine wpAnyH_take (i := 4) (v := ?tv32) rfl (by kernel_rfl) (by kernel_rfl) (by kernel_rfl) (fun _ _ _ h => h) (Or.inl ⟨by rfl, ?thy32⟩) (by assumption) ?trest32; case thy32 => (intro w hSw; (try dsimp only at hSw); go_simp; (try with_reducible rfl)); (try simp only [Act.put, List.getElem_toArray, List.getElem_cons_zero, List.getElem_cons_succ, List.setIfInBounds_toArray, List.set_cons_zero, List.set_cons_succ])); (refine wpAnyH_take (i := 5) (v := ?tv33) rfl (by kernel_rfl) (by kernel_rfl) (by kernel_rfl) (fun _ _ _ h => h) (Or.inl ⟨by rfl, ?thy33⟩) (by assumption) ?trest33; case thy33 => (intro w hSw; (try dsimp only at hSw); go_simp; (try with_reducible rfl)); (try simp only [Act.put, List.getElem_toArray, List.getElem_cons_zero, List.getElem_cons_succ, List.setIfInBounds_toArray, List.set_cons_zero, List.set_cons_succ])); (refine wpAnyH_take (i := 6) (v := ?tv34) rfl (by kernel_rfl) (by kernel_rfl) (by kernel_rfl) (fun _ _ _ h => h) (Or.inl ⟨by rfl, ?thy34⟩) (by assumption) ?trest34; case thy34 => (intro w hSw; (try dsimp only at hSw); go_simp; (try with_reducible rfl)); (try simp only [Act.put, List.getElem_toArray, List.getElem_cons_zero, List.getElem_cons_succ, List.setIfInBounds_toArray, List.set_cons_zero, List.set_cons_succ])); (refine wpAnyH_take (i := 7) (v := ?tv35) rfl (by kernel_rfl) (by kernel_rfl) (by kernel_rfl) (fun _ _ _ h => h) (Or.inl ⟨by rfl, ?thy35⟩) (by assumption) ?trest35; case thy35 => (intro w hSw; (try dsimp only at hSw); go_simp; (try with_reducible rfl)); (try simp only [Act.put, List.getElem_toArray, List.getElem_cons_zero, List.getElem_cons_succ, List.setIfInBounds_toArray, List.set_cons_zero, List.set_cons_succ])); (refine wpAnyH_take (i := 8) (v := ?tv36) rfl (by kernel_rfl) (by kernel_rfl) (by kernel_rfl) (fun _ _ _ h => h) (Or.inl ⟨by rfl, ?thy36⟩) (by assumption) ?trest36; case thy36 => (intro w hSw; (try dsimp only at hSw); go_simp; (try with_reducible rfl)); (try simp only [Act.put, List.getElem_toArray, List.getElem_cons_zero, List.getElem_cons_succ, List.setIfInBounds_toArray, List.set_cons_zero, List.set_cons_succ])); (refine wpAnyH_take (i := 9) (v := ?tv37) rfl (by kernel_rfl) (by kernel_rfl) (by kernel_rfl) (fun _ _ _ h => h) (Or.inl ⟨by rfl, ?thy37⟩) (by assumption) ?trest37; case thy37 => (intro w hSw; (try dsimp only at hSw); go_simp; (try with_reducible rfl)); (try simp only [Act.put, List.getElem_toArray, List.getElem_cons_zero, List.getElem_cons_succ, List.setIfInBounds_toArray, List.set_cons_zero, List.set_cons_succ])); (refine wpAnyH_take (i := 10) (v := ?tv38) rfl (by kernel_rfl) (by kernel_rfl) (by kernel_rfl) (fun _ _ _ h => h) (Or.inl ⟨by rfl, ?thy38⟩) (by assumption) ?trest38; case thy38 => (intro w hSw; (try dsimp only at hSw); go_simp; (try with_reducible rfl)); (try simp only [Act.put, List.getElem_toArray, List.getElem_cons_zero, List.getElem_cons_succ, List.setIfInBounds_toArray, List.set_cons_zero, List.set_cons_succ])); (refine wpAnyH_take (i := 11) (v := ?tv39) rfl (by kernel_rfl) (by kernel_rfl) (by kernel_rfl) (fun _ _ _ h => h) (Or.inl ⟨by rfl, ?thy39⟩) (by assumption) ?trest39; case thy39 => (intro w hSw; (try dsimp only at hSw); go_simp; (try with_reducible rfl)); (try simp only [Act.put, List.getElem_toArray, List.getElem_cons_zero, List.getElem_cons_succ, List.setIfInBounds_toArray, List.set_cons_zero, List.set_cons_succ])); (refine wpAnyH_take (i := 12) (v := ?tv40) rfl (by kernel_rfl) (by kernel_rfl) (by kernel_rfl) (fun _ _ _ h => h) (Or.inl ⟨by rfl, ?thy40⟩) (by assumption) ?trest40; case thy40 => (intro w hSw; (try dsimp only at hSw); go_simp; (try with_reducible rfl)); (try simp only [Act.put, List.getElem_toArray, List.getElem_cons_zero, List.getElem_cons_succ, List.setIfInBounds_toArray, List.set_cons_zero, List.set_cons_succ]))
      refine wpAnyH_ready (rs := [13]) (by kernel_rfl) (by simp) ?_; refine AllReadyH.cons (i := 13) rfl (fun K hK => ?_) AllReadyH.nil
      go_simp
      refine (c_spec_ExitOf (patR X n1) h ua _ (hua.below ((Below.refl _ _).dr))).mono ?_; rintro e w6 ⟨u6, rfl, ho6, hb6⟩
      rw [HEX.out] at ho6
      have hb6 := below_drew hb6
      refine hK.out _ _ ⟨keepc hb6 k0, keepc hb6 k1, keepc hb6 x0⟩ (fun hHeld => ?_)
      clear hK K
      (try simp only [Act.put, List.getElem_toArray, List.getElem_cons_zero, List.getElem_cons_succ, List.setIfInBounds_toArray, List.set_cons_zero, List.set_cons_succ])
      have hone := OwnI.one ho6
      have hlt6 := World.ownsRow.lt ho6
      have hrr := ho6.rd
      obtain ⟨ar, capr, rfl, -, -⟩ := hrr
      have hs6 := hb6.size
      have hout6 := hout.below hb6
      (refine wpAnyH_take (i := 14) (v := ?tv41) rfl (by kernel_rfl) (by kernel_rfl) (by kernel_rfl) (fun _ _ _ h => h) (Or.inl ⟨by rfl, ?thy41⟩) (by assumption) ?trest41; case thy41 => (intro w hSw; (try dsimp only at hSw); go_simp; (try with_reducible rfl)); (try simp only [Act.put, List.getElem_toArray, List.getElem_cons_zero, List.getElem_cons_succ, List.setIfInBounds_toArray, List.set_cons_zero, List.set_cons_succ])); (refine wpAnyH_take (i := 15) (v := ?tv42) rfl (by kernel_rfl) (by kernel_rfl) (by kernel_rfl) (fun _ _ _ h => h) (Or.inl ⟨by rfl, ?thy42⟩) (by assumption) ?trest42; case thy42 => (intro w hSw; (try dsimp only at hSw); go_simp; (try with_reducible rfl)); (try simp only [Act.put, List.getElem_toArray, List.getElem_cons_zero, List.getElem_cons_succ, List.setIfInBounds_toArray, List.set_cons_zero, List.set_cons_succ])); (refine wpAnyH_take (i := 16) (v := ?tv43) rfl (by kernel_rfl) (by kernel_rfl) (by kernel_rfl) (fun _ _ _ h => h) (Or.inl ⟨by rfl, ?thy43⟩) (by assumption) ?trest43; case thy43 => (intro w hSw; (try dsimp only at hSw); go_simp; (try with_reducible rfl)); (try simp only [Act.put, List.getElem_toArray, List.getElem_cons_zero, List.getElem_cons_succ, List.setIfInBounds_toArray, List.set_cons_zero, List.set_cons_succ])); (refine wpAnyH_take (i := 17) (v := ?tv44) rfl (by kernel_rfl) (by kernel_rfl) (by kernel_rfl) (fun _ _ _ h => h) (Or.inl ⟨by rfl, ?thy44⟩) (by assumption) ?trest44; case thy44 => (intro w hSw; (try dsimp only at hSw); go_simp; (try with_reducible rfl)); (try simp only [Act.put, List.getElem_toArray, List.getElem_cons_zero, List.getElem_cons_succ, List.setIfInBounds_toArray, List.set_cons_zero, List.set_cons_succ])); (refine wpAnyH_take (i := 18) (v := ?tv45) rfl (by kernel_rfl) (by kernel_rfl) (by kernel_rfl) (fun _ _ _ h => h) (Or.inl ⟨by rfl, ?thy45⟩) (by assumption) ?trest45; case thy45 => (intro w hSw; (try dsimp only at hSw); go_simp; (try with_reducible rfl)); (try simp only [Act.put, List.getElem_toArray, List.getElem_cons_zero, List.getElem_cons_succ, List.setIfInBounds_toArray, List.set_cons_zero, List.set_cons_succ]))
      refine wpAnyH_done (by kernel_rfl) ?_ _
      refine NoPanic.normal ?_
      go_wp2_with (at_builtin; refine push_g rfl _ _ _ rfl Tryz.underlying66 infoG1 _ _ _ _ w6 rfl rfl (by exact hout6) (by exact ho6.base (by exact hbs)) (fun b hb => (hlt6 b hb).1) hone (by rw [HLN.out]; omega) (by omega) ?_; intro v9 w9 hG9 hg9 hat9 hs9; refine stop_of ?_)
      unfold Stopped
      rw [← HST.out] at hG9
      have B9 : Below w.heap.size w w9 := (hb.tr hb6).grown hg9 (by omega) (fun q hq => (hglt q hq).1)
      have HG10 : Hid (OwnGG w.heap.size w9.heap.size w9 v9 (brR h X)) := hG9
      clear hG9
      go_wp2
      go_ret
      exact ⟨_, rfl, HG10.out, B9⟩
end Go.Proofs.YtioemkdapoombaaGreatDoor
namespace Go.Proofs.YtioemkdapoombaaGreatDoor
open Go.ChangeShapes Go.WideShapes Go.ChangeAt Go.RowKit
set_option linter.unusedVariables false
set_option linter.unusedSimpArgs false
def rtC (h : Int) (X : List Part2) : Int := bif validR h X then 0 else 1
theorem routOf (w : World) (T : TypeId) (h : Int) (v : Value) : ∃ W0, W0 = w.alloc (Obj.cells #[.int .i64 h, v] T) ∧ W0.cell? ⟨w.heap.size, 0, none⟩ = some (.int .i64 h) ∧ W0.cell? ⟨w.heap.size, 1, none⟩ = some v ∧ Below w.heap.size w W0 := twoVals w T _ _
theorem CellsAt.grown {a b : World} {g m : Nat} {r : Option Nat} (h : CellsAt a g m) (hg : a.grownBy b r) (hr : r ≠ some g) : CellsAt b g m := fun i hi => by
  obtain ⟨⟨u, hu⟩, hf⟩ := h i hi
  exact ⟨⟨u, grown_c hg hu hr⟩, grown_f hg hu hf hr⟩
theorem CellsAt.set {a : World} {g m j : Nat} (h : CellsAt a g m) (u : Value) : CellsAt (a.setCell ⟨g, j, none⟩ u) g m := fun i hi => by
  obtain ⟨⟨v, hv⟩, hf⟩ := h i hi
  refine ⟨?_, by rw [World.frozen?_setCell]; exact hf⟩
  by_cases e : j = i
  · subst e; exact ⟨u, World.cell?_setCell_same a _ _ hv⟩
  · refine ⟨v, (World.cell?_setCell_other _ _ _ _ (fun e2 => ?_)).trans hv⟩
    cases e2; exact e rfl
end Go.Proofs.YtioemkdapoombaaGreatDoor
