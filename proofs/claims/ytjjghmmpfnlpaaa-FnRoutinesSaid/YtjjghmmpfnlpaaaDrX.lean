/- The draws of the laws on routines, each with its arguments. -/
import Derived.Test.YtjjghmmpfnlpaaaDrW
namespace Go.Proofs.Ytjjghmmpfnlpaaa
open Go.ChangeShapes Go.WideShapes Go.ChangeAt Go.RowKit
set_option linter.unusedSimpArgs false
set_option linter.unusedVariables false
set_option maxHeartbeats 4000000 in
theorem c_spec_DrawRoutineThrows (bs : List Int) (v : Value) (w : World) (h : RdB w v bs) :
    Calls Try.prog 32 #[v] w fun e w' => ∃ (u : Value) (X : List Part2) (H : Int), e = .returned (.agg #[.int .i64 H, u]) ∧ RdP w' u X ∧ Below w.heap.size w w' := by
  have R0 := VBox.new w 26 (.int .i64 0) (.slice none 0 0)
  have B0 : Below w.heap.size w (w.alloc (Obj.cells #[.int .i64 0, .slice none 0 0] 26)) := (Below.refl _ _).al _
  have hs0 := R0.lt
  go_enter Try.func32, Try.ntmps32
  go_wp2_with fail
  generalize (w.alloc (Obj.cells #[.int .i64 0, .slice none 0 0] 26)) = w0 at *
  refine (c_spec_l00From bs v _ (h.below B0)).mono ?_; rintro e w1 ⟨rfl, S1, hb1⟩
  have hs1 := hb1.size
  go_wp2_with fail
  refine (c_spec_l19Bent w0 _ 0 bs _ S1 (by omega)).mono ?_; rintro e w2 ⟨u, X, H, k2, rfl, hD, hk2, S2, U2⟩
  have R2 := R0.below S2.hb
  have B2 := B0.tr S2.hb
  obtain ⟨au, cu, hu, -⟩ := hD.rd
  obtain ⟨LX, hLX⟩ : ∃ LX, X.length = LX := ⟨_, rfl⟩
  rw [hLX] at hu
  subst hu
  have r0 := R2.c0
  have r1 := R2.c1
  have rf0 := R2.f0
  have rf1 := R2.f1
  obtain ⟨TZ, gz⟩ := R2.set (.int .i64 H) (.slice au LX cu)
  have DZ := (hD.upd (Upd.of_grown (lo := w.heap.size) (hi := w.heap.size + 1) gz (fun k hk => by simp only [Option.some.injEq] at hk; omega)) (Or.inr (by omega)))
  have BZ := B2.grown gz B2.size (fun k hk => by simp only [Option.some.injEq] at hk; omega)
  have X0 := TZ.c0
  have X1 := TZ.c1
  go_wp2
  generalize ((w2.setCell ⟨w.heap.size, 0, none⟩ (.int .i64 H)).setCell ⟨w.heap.size, 1, none⟩ (.slice au LX cu)) = wz at *
  exact bodyPost_ret (v := .agg #[.int .i64 H, .slice au LX cu]) (by simp [results, Try.results32, go_sem, X0, X1]) rfl ⟨_, X, H, rfl, DZ.rd, BZ⟩
set_option maxHeartbeats 4000000 in
set_option maxRecDepth 100000 in
theorem c_spec_DrawPartAt (bs : List Int) (v : Value) (w : World) (h : RdB w v bs) :
    Calls Try.prog 38 #[v] w fun e w' => ∃ (u : Value) (X : List Part2) (H bt : Int), e = .returned (.tuple #[.agg #[.int .i64 H, u], .int .i64 bt]) ∧ RdP w' u X ∧ Below w.heap.size w w' := by
  have R0 := VBox.new w 26 (.int .i64 0) (.slice none 0 0)
  have B0 : Below w.heap.size w (w.alloc (Obj.cells #[.int .i64 0, .slice none 0 0] 26)) := (Below.refl _ _).al _
  have hs0 := R0.lt
  go_enter Try.func38, Try.ntmps38
  go_wp2_with fail
  generalize (w.alloc (Obj.cells #[.int .i64 0, .slice none 0 0] 26)) = w0 at *
  refine (c_spec_l00From bs v _ (h.below B0)).mono ?_; rintro e w1 ⟨rfl, S1, hb1⟩
  have hs1 := hb1.size
  have hg1 := S1.lt
  go_wp2_with fail
  refine (c_spec_l19Bent w0 _ 0 bs _ S1 (by omega)).mono ?_; rintro e w2 ⟨u, X, H, k2, rfl, hD, hk2, S2, U2⟩
  have hs2 := U2.size
  have R2 := R0.below S2.hb
  obtain ⟨au, cu, hu, -⟩ := hD.rd
  obtain ⟨LX, hLX⟩ : ∃ LX, X.length = LX := ⟨_, rfl⟩
  rw [hLX] at hu
  subst hu
  have T2 := VBox.new w2 26 (.int .i64 H) (.slice au LX cu)
  have hb3 : Below w2.heap.size w2 (w2.alloc (Obj.cells #[.int .i64 H, .slice au LX cu] 26)) := (Below.refl _ _).al _
  have S3 := S2.below hb3
  have R3 := R2.below hb3
  have D3 := hD.below hb3
  have hRG := R2.lt
  clear R0 S1 R2 S2 hD U2
  go_wp2_with fail
  clear hb3
  generalize (w2.alloc (Obj.cells #[.int .i64 H, .slice au LX cu] 26)) = w3 at *
  generalize w2.heap.size = G at *
  have p0 := T2.c0
  have p1 := T2.c1
  have hGl := T2.lt
  have D3 := D3.wide (Nat.le_refl _) (show G ≤ w3.heap.size by omega)
  refine wp_region_noPanic ?_
  refine wp_region_held_drew (S := fun w' => w'.cell? ⟨G, 0, none⟩ = some (.int .i64 H) ∧ w'.cell? ⟨G, 1, none⟩ = some (.slice au LX cu)) (by kernel_rfl) ?_ (fun hHeld => ?_)
  · exact ⟨p0, p1⟩
  (refine wpAnyH_take (i := 0) (v := ?tv1) rfl (by kernel_rfl) (by kernel_rfl) (by kernel_rfl) (fun _ _ _ h => h) (Or.inl ⟨by rfl, ?thy1⟩) (by assumption) ?trest1; case thy1 => (intro w hSw; (try dsimp only at hSw); go_simp; (try with_reducible rfl)); (try simp only [Act.put, List.getElem_toArray, List.getElem_cons_zero, List.getElem_cons_succ, List.setIfInBounds_toArray, List.set_cons_zero, List.set_cons_succ])); (refine wpAnyH_take (i := 1) (v := ?tv2) rfl (by kernel_rfl) (by kernel_rfl) (by kernel_rfl) (fun _ _ _ h => h) (Or.inl ⟨by rfl, ?thy2⟩) (by assumption) ?trest2; case thy2 => (intro w hSw; (try dsimp only at hSw); go_simp; (try with_reducible rfl)); (try simp only [Act.put, List.getElem_toArray, List.getElem_cons_zero, List.getElem_cons_succ, List.setIfInBounds_toArray, List.set_cons_zero, List.set_cons_succ])); (refine wpAnyH_take (i := 3) (v := ?tv3) rfl (by kernel_rfl) (by kernel_rfl) (by kernel_rfl) (fun _ _ _ h => h) (Or.inl ⟨by rfl, ?thy3⟩) (by assumption) ?trest3; case thy3 => (intro w hSw; (try dsimp only at hSw); go_simp; (try with_reducible rfl)); (try simp only [Act.put, List.getElem_toArray, List.getElem_cons_zero, List.getElem_cons_succ, List.setIfInBounds_toArray, List.set_cons_zero, List.set_cons_succ]))
  refine wpAnyH_ready (rs := [2]) (by kernel_rfl) (by simp) ?_; refine AllReadyH.cons (i := 2) rfl (fun K hK => ?_) AllReadyH.nil
  go_simp
  refine (c_spec_l00Src_pick w0 _ k2 bs 60 _ (S3.below (Below.refl _ _).dr) (by omega) (by omega)).mono ?_; rintro e w4 ⟨x4, k4, rfl, hx0, hx1, -, hk4, S4, U4⟩
  have hx := hx1 (by omega)
  have T4 := (T2.below (Below.refl _ _).dr).upd U4 (by omega)
  have R4 := (R3.below (Below.refl _ _).dr).upd U4 (by omega)
  have D4 := (D3.below (Below.refl _ _).dr).upd U4 (Or.inr (by omega))
  refine hK.out _ _ ⟨T4.c0, T4.c1⟩ (fun hHeld => ?_)
  clear hK K
  (try simp only [Act.put, List.setIfInBounds_toArray, List.set_cons_zero, List.set_cons_succ])
  refine wpAnyH_ready (rs := [4]) (by kernel_rfl) (by simp) ?_; refine AllReadyH.cons (i := 4) rfl (fun K hK => ?_) AllReadyH.nil
  go_simp
  refine (c_spec_l00Src_pick w0 _ k4 bs 12 _ S4 (by omega) (by omega)).mono ?_; rintro e w5 ⟨x5, k5, rfl, hy0, hy1, -, hk5, S5, U5⟩
  have hy := hy1 (by omega)
  have T5 := T4.upd U5 (by omega)
  have R5 := R4.upd U5 (by omega)
  have D5 := D4.upd U5 (Or.inr (by omega))
  refine hK.out _ _ ⟨T5.c0, T5.c1⟩ (fun hHeld => ?_)
  clear hK K
  (try simp only [Act.put, List.setIfInBounds_toArray, List.set_cons_zero, List.set_cons_succ])
  (refine wpAnyH_take (i := 5) (v := ?tv4) rfl (by kernel_rfl) (by kernel_rfl) (by kernel_rfl) (fun _ _ _ h => h) (Or.inl ⟨by rfl, ?thy4⟩) (by assumption) ?trest4; case thy4 => (intro w hSw; (try dsimp only at hSw); go_simp; (try with_reducible rfl)); (try simp only [Act.put, List.getElem_toArray, List.getElem_cons_zero, List.getElem_cons_succ, List.setIfInBounds_toArray, List.set_cons_zero, List.set_cons_succ])); (refine wpAnyH_take (i := 6) (v := ?tv5) rfl (by kernel_rfl) (by kernel_rfl) (by kernel_rfl) (fun _ _ _ h => h) (Or.inl ⟨by rfl, ?thy5⟩) (by assumption) ?trest5; case thy5 => (intro w hSw; (try dsimp only at hSw); go_simp; (try with_reducible rfl)); (try simp only [Act.put, List.getElem_toArray, List.getElem_cons_zero, List.getElem_cons_succ, List.setIfInBounds_toArray, List.set_cons_zero, List.set_cons_succ])); (refine wpAnyH_take (i := 7) (v := ?tv6) rfl (by kernel_rfl) (by kernel_rfl) (by kernel_rfl) (fun _ _ _ h => h) (Or.inl ⟨by rfl, ?thy6⟩) (by assumption) ?trest6; case thy6 => (intro w hSw; (try dsimp only at hSw); go_simp; (try with_reducible rfl)); (try simp only [Act.put, List.getElem_toArray, List.getElem_cons_zero, List.getElem_cons_succ, List.setIfInBounds_toArray, List.set_cons_zero, List.set_cons_succ]))
  obtain ⟨TZ, gz⟩ := R5.set (.int .i64 H) (.slice au LX cu)
  have TY := T5.grown gz (by simp only [ne_eq, Option.some.injEq]; omega)
  have r0 := R5.c0
  have r1 := R5.c1
  have rf0 := R5.f0
  have rf1 := R5.f1
  refine wpAnyH_ready (rs := [8]) (by kernel_rfl) (by simp) ?_; refine AllReadyH.cons (i := 8) rfl (fun K hK => ?_) AllReadyH.nil
  go_simp
  refine hK.out _ _ ⟨TY.c0, TY.c1⟩ (fun hHeld => ?_)
  clear hK K
  (try simp only [Act.put, List.setIfInBounds_toArray, List.set_cons_zero, List.set_cons_succ])
  (refine wpAnyH_take (i := 9) (v := ?tv7) rfl (by kernel_rfl) (by kernel_rfl) (by kernel_rfl) (fun _ _ _ h => h) (Or.inl ⟨by rfl, ?thy7⟩) (by assumption) ?trest7; case thy7 => (intro w hSw; (try dsimp only at hSw); go_simp; (try with_reducible rfl)); (try simp only [Act.put, List.getElem_toArray, List.getElem_cons_zero, List.getElem_cons_succ, List.setIfInBounds_toArray, List.set_cons_zero, List.set_cons_succ]))
  refine wpAnyH_done (by kernel_rfl) ?_ _
  refine NoPanic.normal ?_
  have DZ := (D5.upd (Upd.of_grown (lo := w.heap.size) (hi := w.heap.size + 1) gz (fun k hk => by simp only [Option.some.injEq] at hk; omega)) (Or.inr (by omega)))
  have B5 := B0.tr S5.hb
  have BZ := B5.grown gz B5.size (fun k hk => by simp only [Option.some.injEq] at hk; omega)
  have X0 := TZ.c0
  have X1 := TZ.c1
  generalize ((w5.setCell ⟨w.heap.size, 0, none⟩ (.int .i64 H)).setCell ⟨w.heap.size, 1, none⟩ (.slice au LX cu)) = wz at *
  go_wp2
  refine bodyPost_ret (v := .tuple #[.agg #[.int .i64 H, .slice au LX cu], ?_]) (by simp [results, Try.results38, go_sem, X0, X1]; rfl) rfl ⟨_, X, H, _, rfl, DZ.rd, BZ⟩
end Go.Proofs.Ytjjghmmpfnlpaaa
