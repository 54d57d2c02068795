/- The law OrdersX: what it rests on, part 38 of 48. -/
import Derived.Test.YtgcmnpimkfmccaaQOrdersX37
namespace Go.Proofs.Ytgcmnpimkfmccaa
open Go.ChangeShapes Go.WideShapes Go.ChangeAt Go.RowKit
set_option linter.unusedSimpArgs false
set_option linter.unusedVariables false
set_option maxHeartbeats 4000000 in
theorem c_spec_DrawTurnRoutine (bs : List Int) (v : Value) (w : World) (h : RdB w v bs) :
    Calls Try.prog 9 #[v] w fun e w' => ∃ (u : Value) (X : List Part2) (H : Int), e = .returned (.agg #[.int .i64 H, u]) ∧ RdP w' u X ∧ Below w.heap.size w w' := by
  have R0 := VBox.new w 26 (.int .i64 0) (.slice none 0 0)
  have B0 : Below w.heap.size w (w.alloc (Obj.cells #[.int .i64 0, .slice none 0 0] 26)) := (Below.refl _ _).al _
  have hs0 := R0.lt
  go_enter Try.func9, Try.ntmps9
  go_wp2_with fail
  generalize (w.alloc (Obj.cells #[.int .i64 0, .slice none 0 0] 26)) = w0 at *
  refine (c_spec_l00From bs v _ (h.below B0)).mono ?_; rintro e w1 ⟨rfl, S1, hb1⟩
  have hs1 := hb1.size
  go_wp2_with fail
  refine (c_spec_l19Bent w0 _ 0 bs _ S1 (by omega)).mono ?_; rintro e w2 ⟨u, X, H, k2, rfl, hD, hk2, S2, U2⟩
  have R2 := R0.below S2.hb
  have B2 := B0.tr S2.hb
  obtain ⟨au, cu, hu, -⟩ := hD.rd
  obtain ⟨LX, hLX⟩ : ∃ LX, X.length = LX := ⟨_, rfl⟩
  rw [hLX] at hu
  subst hu
  have r0 := R2.c0
  have r1 := R2.c1
  have rf0 := R2.f0
  have rf1 := R2.f1
  obtain ⟨TZ, gz⟩ := R2.set (.int .i64 H) (.slice au LX cu)
  have DZ := (hD.upd (Upd.of_grown (lo := w.heap.size) (hi := w.heap.size + 1) gz (fun k hk => by simp only [Option.some.injEq] at hk; omega)) (Or.inr (by omega)))
  have BZ := B2.grown gz B2.size (fun k hk => by simp only [Option.some.injEq] at hk; omega)
  have X0 := TZ.c0
  have X1 := TZ.c1
  go_wp2
  generalize ((w2.setCell ⟨w.heap.size, 0, none⟩ (.int .i64 H)).setCell ⟨w.heap.size, 1, none⟩ (.slice au LX cu)) = wz at *
  exact bodyPost_ret (v := .agg #[.int .i64 H, .slice au LX cu]) (by simp [results, Try.results9, go_sem, X0, X1]) rfl ⟨_, X, H, rfl, DZ.rd, BZ⟩
set_option maxHeartbeats 4000000 in
theorem c_spec_DrawShortestOrder (bs : List Int) (v : Value) (w : World) (h : RdB w v bs) :
    Calls Try.prog 6 #[v] w fun e w' => ∃ (u : Value) (X : List Part2) (H : Int), e = .returned (.agg #[.int .i64 H, u]) ∧ RdP w' u X ∧ Below w.heap.size w w' := by
  have R0 := VBox.new w 26 (.int .i64 0) (.slice none 0 0)
  have B0 : Below w.heap.size w (w.alloc (Obj.cells #[.int .i64 0, .slice none 0 0] 26)) := (Below.refl _ _).al _
  have hs0 := R0.lt
  go_enter Try.func6, Try.ntmps6
  go_wp2_with fail
  generalize (w.alloc (Obj.cells #[.int .i64 0, .slice none 0 0] 26)) = w0 at *
  refine (c_spec_l00From bs v _ (h.below B0)).mono ?_; rintro e w1 ⟨rfl, S1, hb1⟩
  have hs1 := hb1.size
  go_wp2_with fail
  refine (c_spec_l00Src_one w0 _ 0 bs 2 _ S1 (by omega) (by omega)).mono ?_; rintro e wc ⟨c0, kc, rfl, hkc, SC, UC⟩
  have hsc := UC.size
  cases c0
  · go_wp2_with fail
    refine (c_spec_l19Bent w0 _ kc bs _ SC (by omega)).mono ?_; rintro e w2 ⟨u, X, H, k2, rfl, hD, hk2, S2, U2⟩
    have R2 := R0.below S2.hb
    have B2 := B0.tr S2.hb
    obtain ⟨au, cu, hu, -⟩ := hD.rd
    obtain ⟨LX, hLX⟩ : ∃ LX, X.length = LX := ⟨_, rfl⟩
    rw [hLX] at hu
    subst hu
    have r0 := R2.c0
    have r1 := R2.c1
    have rf0 := R2.f0
    have rf1 := R2.f1
    obtain ⟨TZ, gz⟩ := R2.set (.int .i64 H) (.slice au LX cu)
    have DZ := (hD.upd (Upd.of_grown (lo := w.heap.size) (hi := w.heap.size + 1) gz (fun k hk => by simp only [Option.some.injEq] at hk; omega)) (Or.inr (by omega)))
    have BZ := B2.grown gz B2.size (fun k hk => by simp only [Option.some.injEq] at hk; omega)
    have X0 := TZ.c0
    have X1 := TZ.c1
    go_wp2
    generalize ((w2.setCell ⟨w.heap.size, 0, none⟩ (.int .i64 H)).setCell ⟨w.heap.size, 1, none⟩ (.slice au LX cu)) = wz at *
    exact bodyPost_ret (v := .agg #[.int .i64 H, .slice au LX cu]) (by simp [results, Try.results6, go_sem, X0, X1]) rfl ⟨_, X, H, rfl, DZ.rd, BZ⟩
  · go_wp2_with fail
    refine (c_spec_l19Draw w0 _ kc bs 5 _ SC (by omega) (by omega)).mono ?_; rintro e w2 ⟨u, X, H, k2, rfl, hD, -, -, hk2, S2, U2⟩
    have R2 := R0.below S2.hb
    have B2 := B0.tr S2.hb
    obtain ⟨au, cu, hu, -⟩ := hD.rd
    obtain ⟨LX, hLX⟩ : ∃ LX, X.length = LX := ⟨_, rfl⟩
    rw [hLX] at hu
    subst hu
    have r0 := R2.c0
    have r1 := R2.c1
    have rf0 := R2.f0
    have rf1 := R2.f1
    obtain ⟨TZ, gz⟩ := R2.set (.int .i64 H) (.slice au LX cu)
    have DZ := (hD.upd (Upd.of_grown (lo := w.heap.size) (hi := w.heap.size + 1) gz (fun k hk => by simp only [Option.some.injEq] at hk; omega)) (Or.inr (by omega)))
    have BZ := B2.grown gz B2.size (fun k hk => by simp only [Option.some.injEq] at hk; omega)
    have X0 := TZ.c0
    have X1 := TZ.c1
    go_wp2
    generalize ((w2.setCell ⟨w.heap.size, 0, none⟩ (.int .i64 H)).setCell ⟨w.heap.size, 1, none⟩ (.slice au LX cu)) = wz at *
    exact bodyPost_ret (v := .agg #[.int .i64 H, .slice au LX cu]) (by simp [results, Try.results6, go_sem, X0, X1]) rfl ⟨_, X, H, rfl, DZ.rd, BZ⟩
end Go.Proofs.Ytgcmnpimkfmccaa
