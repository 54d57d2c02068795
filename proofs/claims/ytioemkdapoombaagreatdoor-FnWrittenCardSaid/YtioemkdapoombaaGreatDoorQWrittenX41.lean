/- The law WrittenX: what it rests on, part 41 of 46. -/
import Derived.Test.YtioemkdapoombaaGreatDoorQWrittenX08
import Derived.Test.YtioemkdapoombaaGreatDoorQWrittenX18
import Derived.Test.YtioemkdapoombaaGreatDoorQWrittenX40
namespace Go.Proofs.YtioemkdapoombaaGreatDoor
open Go.ChangeShapes Go.WideShapes Go.ChangeAt Go.RowKit
set_option linter.unusedSimpArgs false
set_option linter.unusedVariables false
set_option maxHeartbeats 4000000 in
theorem c_spec_DrawRoutineLines (bs : List Int) (v : Value) (w : World) (h : RdB w v bs) :
    Calls Tryz.prog 9 #[v] w fun e w' => ∃ (u : Value) (X : List Part2) (H : Int), e = .returned (.agg #[.int .i64 H, u]) ∧ RdP w' u X ∧ Below w.heap.size w w' := by
  have R0 := VBox.new w 34 (.int .i64 0) (.slice none 0 0)
  have B0 : Below w.heap.size w (w.alloc (Obj.cells #[.int .i64 0, .slice none 0 0] 34)) := (Below.refl _ _).al _
  have hs0 := R0.lt
  go_enter Tryz.func9, Tryz.ntmps9
  go_wp2_with fail
  generalize (w.alloc (Obj.cells #[.int .i64 0, .slice none 0 0] 34)) = w0 at *
  refine (c_spec_l00From bs v _ (h.below B0)).mono ?_; rintro e w1 ⟨rfl, S1, hb1⟩
  have hs1 := hb1.size
  go_wp2_with fail
  refine (c_spec_l19Bent w0 _ 0 bs _ S1 (by omega)).mono ?_; rintro e w2 ⟨u, X, H, k2, rfl, hD, hk2, S2, U2⟩
  have R2 := R0.below S2.hb
  have B2 := B0.tr S2.hb
  obtain ⟨au, cu, hu, -⟩ := hD.rd
  obtain ⟨LX, hLX⟩ : ∃ LX, X.length = LX := ⟨_, rfl⟩
  rw [hLX] at hu
  subst hu
  have r0 := R2.c0
  have r1 := R2.c1
  have rf0 := R2.f0
  have rf1 := R2.f1
  obtain ⟨TZ, gz⟩ := R2.set (.int .i64 H) (.slice au LX cu)
  have DZ := (hD.upd (Upd.of_grown (lo := w.heap.size) (hi := w.heap.size + 1) gz (fun k hk => by simp only [Option.some.injEq] at hk; omega)) (Or.inr (by omega)))
  have BZ := B2.grown gz B2.size (fun k hk => by simp only [Option.some.injEq] at hk; omega)
  have X0 := TZ.c0
  have X1 := TZ.c1
  go_wp2
  generalize ((w2.setCell ⟨w.heap.size, 0, none⟩ (.int .i64 H)).setCell ⟨w.heap.size, 1, none⟩ (.slice au LX cu)) = wz at *
  exact bodyPost_ret (v := .agg #[.int .i64 H, .slice au LX cu]) (by simp [results, Tryz.results9, go_sem, X0, X1]) rfl ⟨_, X, H, rfl, DZ.rd, BZ⟩
theorem rd5 (w : World) (a b c d e : Int) : RdI (w.alloc (Obj.cells #[.int .i64 a, .int .i64 b, .int .i64 c, .int .i64 d, .int .i64 e] 2)) (.slice (some ⟨w.heap.size, 0, none⟩) 5 5) [a, b, c, d, e] := by
  refine ⟨_, _, rfl, by simp, fun k hk => ⟨w.heap.size, 0, rfl, ?_⟩⟩
  have hk' : k < 5 := by simpa using hk
  have : k = 0 ∨ k = 1 ∨ k = 2 ∨ k = 3 ∨ k = 4 := by omega
  rcases this with rfl | rfl | rfl | rfl | rfl <;> exact World.cell?_alloc_at _ _ _ _ rfl
theorem rd4i (w : World) (a b c d : Int) : RdI (w.alloc (Obj.cells #[.int .i64 a, .int .i64 b, .int .i64 c, .int .i64 d] 2)) (.slice (some ⟨w.heap.size, 0, none⟩) 4 4) [a, b, c, d] := by
  refine ⟨_, _, rfl, by simp, fun k hk => ⟨w.heap.size, 0, rfl, ?_⟩⟩
  have hk' : k < 4 := by simpa using hk
  have : k = 0 ∨ k = 1 ∨ k = 2 ∨ k = 3 := by omega
  rcases this with rfl | rfl | rfl | rfl <;> exact World.cell?_alloc_at _ _ _ _ rfl
set_option maxHeartbeats 16000000 in
set_option maxRecDepth 100000 in
theorem c_spec_l08Bent (W0 : World) (g k : Nat) (bs : List Int) (w : World) (h : Src W0 g bs k w) (hk : k < 90000) :
    Calls Tryz.prog 31 #[.pointer (some ⟨g, 0, none⟩)] w fun e w' => ∃ (H m : Int) (k' : Nat), e = .returned (.agg #[.int .i64 H, .int .i64 m]) ∧ k' ≤ k + 10 ∧ Src W0 g bs k' w' ∧ Upd g (g + 1) w w' := by
  have hgw := h.lt
  have R0 := VBox.new w 25 (.int .i64 0) (.int .i64 0)
  have hb0 : Below w.heap.size w (w.alloc (Obj.cells #[.int .i64 0, .int .i64 0] 25)) := (Below.refl _ _).al _
  have S0 := h.below hb0
  have U0 : Upd g (g + 1) w (w.alloc (Obj.cells #[.int .i64 0, .int .i64 0] 25)) := Upd.of_below hb0
  have hs0 := R0.lt
  clear h hb0
  go_enter Tryz.func31, Tryz.ntmps31
  go_wp2_with fail
  generalize (w.alloc (Obj.cells #[.int .i64 0, .int .i64 0] 25)) = w0 at *
  refine (c_spec_l08Draw W0 g k bs _ S0 (by omega)).mono ?_; rintro e w1 ⟨H, m, k1, rfl, hH, hm, hk1, S1, U1⟩
  have hs1 := U1.size
  replace R0 := R0.upd U1 (by omega)
  have U1 := U0.trans U1
  clear U0 S0
  have T := VBox.new w1 25 (.int .i64 H) (.int .i64 m)
  have hb2 : Below w1.heap.size w1 (w1.alloc (Obj.cells #[.int .i64 H, .int .i64 m] 25)) := (Below.refl _ _).al _
  have hlT := T.lt
  go_wp2_with fail
  replace R0 := R0.below hb2
  have S2 := S1.below hb2
  have U2 := U1.trans (Upd.of_below (lo := g) (hi := g + 1) hb2)
  obtain ⟨G, hG⟩ : ∃ G, w1.heap.size = G := ⟨_, rfl⟩
  rw [hG] at T hs1 hlT ⊢
  generalize (w1.alloc (Obj.cells #[.int .i64 H, .int .i64 m] 25)) = w2 at *
  clear S1 U1 hb2 hG
  refine (c_spec_l00Src_pick W0 g k1 bs 16 _ S2 (by omega) (by omega)).mono ?_; rintro e w3 ⟨x, k3, rfl, hx0, hx1, -, hk3, S3, U3⟩
  have hs3 := U3.size
  replace R0 := R0.upd U3 (by omega)
  replace T := T.upd U3 (by omega)
  have U3 := U2.trans U3
  clear U2 S2 hx1
  have c0 := T.c0
  have c1 := T.c1
  have cf0 := T.f0
  have cf1 := T.f1
  by_cases h0 : x = 0
  · subst h0
    have hb4 : Below w3.heap.size w3 (w3.alloc (Obj.cells #[.int .i64 0, .int .i64 10, .int .i64 11, .int .i64 (-9223372036854775808), .int .i64 9223372036854775807] 2)) := (Below.refl _ _).al _
    have rdz := rd5 w3 0 10 11 (-9223372036854775808) 9223372036854775807
    have S4 := S3.below hb4
    have U4 := U3.trans (Upd.of_below (lo := g) (hi := g + 1) hb4)
    go_wp2_with fail
    refine (c_spec_l00Src_among W0 g k3 bs _ _ _ S4 rdz (by omega) (by simp) (fun n e => by simp only [Value.ownBlock, Option.some.injEq] at e; have := S3.lt; omega)).mono ?_
    rintro e w5 ⟨q, k5, rfl, -, hk5, S5, U5⟩
    replace T := (T.below hb4).upd U5 (by omega)
    replace R0 := (R0.below hb4).upd U5 (by omega)
    have hs4 := hb4.size
    have hs5 := U5.size
    have U5 := U4.trans U5
    clear S3 S4 U3 U4 hb4 rdz c0 c1 cf0 cf1
    have c0 := T.c0
    have c1 := T.c1
    have cf0 := T.f0
    obtain ⟨T2, g2⟩ := T.set0 (.int .i64 q)
    have R2 := R0.grown g2 (by simp only [ne_eq, Option.some.injEq]; omega)
    have S6 := S5.upd (Upd.of_grown (lo := G) (hi := G + 1) g2 (fun k hk => by simp only [Option.some.injEq] at hk; omega)) (by have := S5.hb.size; have := S5.hg; omega) (Or.inl (by omega))
    have U6 := updNew U5 g2 (by omega)
    have d0 := T2.c0
    have d1 := T2.c1
    have r0 := R2.c0
    have r1 := R2.c1
    have rf0 := R2.f0
    have rf1 := R2.f1
    obtain ⟨RZ, gz⟩ := R2.set (.int .i64 q) (.int .i64 m)
    have SZ := S6.upd (Upd.of_grown (lo := w.heap.size) (hi := w.heap.size + 1) gz (fun k hk => by simp only [Option.some.injEq] at hk; omega)) (by have := S5.hg; omega) (Or.inl (by omega))
    have UZ := updNew U6 gz (Nat.le_refl _)
    go_wp2
    have X0 := RZ.c0
    have X1 := RZ.c1
    exact bodyPost_ret (v := .agg #[.int .i64 q, .int .i64 m]) (by simp [results, Tryz.results31, go_sem, X0, X1]) rfl ⟨_, _, k5, rfl, by omega, SZ, UZ⟩
  have t0 : (x == 0) = false := beq_eq_false_iff_ne.2 h0
  by_cases h1 : x = 1
  · subst h1
    have hcase : H = 1 ∨ H = 2 ∨ H = 3 ∨ H = 4 ∨ H = 5 ∨ H = 6 ∨ H = 7 := by omega
    clear hm hH
    rcases hcase with rfl | rfl | rfl | rfl | rfl | rfl | rfl
    · go_wp2_with fail
      refine (c_spec_l00Src_among W0 g k3 bs _ _ _ (S3.below ((Below.refl _ _).al _)) (rd4i w3 _ _ _ _) (by omega) (by simp) (fun n e => by simp only [Value.ownBlock, Option.some.injEq] at e; have := S3.lt; omega)).mono ?_
      rintro e w5 ⟨q, k5, rfl, -, hk5, S5, U5⟩
      have hb4 : Below w3.heap.size w3 (w3.alloc (Obj.cells #[.int .i64 (-1), .int .i64 (2 ^ 1 - 1), .int .i64 (2 ^ 1), .int .i64 9223372036854775807] 2)) := (Below.refl _ _).al _
      replace T := (T.below ((Below.refl _ _).al _)).upd U5 (by omega)
      replace R0 := (R0.below ((Below.refl _ _).al _)).upd U5 (by omega)
      have hs4 := hb4.size
      have hs5 := U5.size
      have U5 := (U3.trans (Upd.of_below (lo := g) (hi := g + 1) ((Below.refl _ _).al _))).trans U5
      clear S3 U3 c0 c1 cf0 cf1
      rw [World.size_alloc] at hs4 hs5
      have c0 := T.c0
      have c1 := T.c1
      have cf1 := T.f1
      obtain ⟨T2, g2⟩ := T.set1 (.int .i64 q)
      have R2 := R0.grown g2 (by simp only [ne_eq, Option.some.injEq]; omega)
      have S6 := S5.upd (Upd.of_grown (lo := G) (hi := G + 1) g2 (fun k hk => by simp only [Option.some.injEq] at hk; omega)) (by have := S5.hg; omega) (Or.inl (by omega))
      have U6 := updNew U5 g2 (by omega)
      have d0 := T2.c0
      have d1 := T2.c1
      have r0 := R2.c0
      have r1 := R2.c1
      have rf0 := R2.f0
      have rf1 := R2.f1
      obtain ⟨RZ, gz⟩ := R2.set (.int .i64 1) (.int .i64 q)
      have SZ := S6.upd (Upd.of_grown (lo := w.heap.size) (hi := w.heap.size + 1) gz (fun k hk => by simp only [Option.some.injEq] at hk; omega)) (by have := S6.hg; omega) (Or.inl (by omega))
      have UZ := updNew U6 gz (Nat.le_refl _)
      go_wp2
      have X0 := RZ.c0
      have X1 := RZ.c1
      exact bodyPost_ret (v := .agg #[.int .i64 1, .int .i64 q]) (by simp [results, Tryz.results31, go_sem, X0, X1]) rfl ⟨_, _, k5, rfl, by omega, SZ, UZ⟩
    · go_wp2_with fail
      refine (c_spec_l00Src_among W0 g k3 bs _ _ _ (S3.below ((Below.refl _ _).al _)) (rd4i w3 _ _ _ _) (by omega) (by simp) (fun n e => by simp only [Value.ownBlock, Option.some.injEq] at e; have := S3.lt; omega)).mono ?_
      rintro e w5 ⟨q, k5, rfl, -, hk5, S5, U5⟩
      have hb4 : Below w3.heap.size w3 (w3.alloc (Obj.cells #[.int .i64 (-1), .int .i64 (2 ^ 2 - 1), .int .i64 (2 ^ 2), .int .i64 9223372036854775807] 2)) := (Below.refl _ _).al _
      replace T := (T.below ((Below.refl _ _).al _)).upd U5 (by omega)
      replace R0 := (R0.below ((Below.refl _ _).al _)).upd U5 (by omega)
      have hs4 := hb4.size
      have hs5 := U5.size
      have U5 := (U3.trans (Upd.of_below (lo := g) (hi := g + 1) ((Below.refl _ _).al _))).trans U5
      clear S3 U3 c0 c1 cf0 cf1
      rw [World.size_alloc] at hs4 hs5
      have c0 := T.c0
      have c1 := T.c1
      have cf1 := T.f1
      obtain ⟨T2, g2⟩ := T.set1 (.int .i64 q)
      have R2 := R0.grown g2 (by simp only [ne_eq, Option.some.injEq]; omega)
      have S6 := S5.upd (Upd.of_grown (lo := G) (hi := G + 1) g2 (fun k hk => by simp only [Option.some.injEq] at hk; omega)) (by have := S5.hg; omega) (Or.inl (by omega))
      have U6 := updNew U5 g2 (by omega)
      have d0 := T2.c0
      have d1 := T2.c1
      have r0 := R2.c0
      have r1 := R2.c1
      have rf0 := R2.f0
      have rf1 := R2.f1
      obtain ⟨RZ, gz⟩ := R2.set (.int .i64 2) (.int .i64 q)
      have SZ := S6.upd (Upd.of_grown (lo := w.heap.size) (hi := w.heap.size + 1) gz (fun k hk => by simp only [Option.some.injEq] at hk; omega)) (by have := S6.hg; omega) (Or.inl (by omega))
      have UZ := updNew U6 gz (Nat.le_refl _)
      go_wp2
      have X0 := RZ.c0
      have X1 := RZ.c1
      exact bodyPost_ret (v := .agg #[.int .i64 2, .int .i64 q]) (by simp [results, Tryz.results31, go_sem, X0, X1]) rfl ⟨_, _, k5, rfl, by omega, SZ, UZ⟩
    · go_wp2_with fail
      refine (c_spec_l00Src_among W0 g k3 bs _ _ _ (S3.below ((Below.refl _ _).al _)) (rd4i w3 _ _ _ _) (by omega) (by simp) (fun n e => by simp only [Value.ownBlock, Option.some.injEq] at e; have := S3.lt; omega)).mono ?_
      rintro e w5 ⟨q, k5, rfl, -, hk5, S5, U5⟩
      have hb4 : Below w3.heap.size w3 (w3.alloc (Obj.cells #[.int .i64 (-1), .int .i64 (2 ^ 3 - 1), .int .i64 (2 ^ 3), .int .i64 9223372036854775807] 2)) := (Below.refl _ _).al _
      replace T := (T.below ((Below.refl _ _).al _)).upd U5 (by omega)
      replace R0 := (R0.below ((Below.refl _ _).al _)).upd U5 (by omega)
      have hs4 := hb4.size
      have hs5 := U5.size
      have U5 := (U3.trans (Upd.of_below (lo := g) (hi := g + 1) ((Below.refl _ _).al _))).trans U5
      clear S3 U3 c0 c1 cf0 cf1
      rw [World.size_alloc] at hs4 hs5
      have c0 := T.c0
      have c1 := T.c1
      have cf1 := T.f1
      obtain ⟨T2, g2⟩ := T.set1 (.int .i64 q)
      have R2 := R0.grown g2 (by simp only [ne_eq, Option.some.injEq]; omega)
      have S6 := S5.upd (Upd.of_grown (lo := G) (hi := G + 1) g2 (fun k hk => by simp only [Option.some.injEq] at hk; omega)) (by have := S5.hg; omega) (Or.inl (by omega))
      have U6 := updNew U5 g2 (by omega)
      have d0 := T2.c0
      have d1 := T2.c1
      have r0 := R2.c0
      have r1 := R2.c1
      have rf0 := R2.f0
      have rf1 := R2.f1
      obtain ⟨RZ, gz⟩ := R2.set (.int .i64 3) (.int .i64 q)
      have SZ := S6.upd (Upd.of_grown (lo := w.heap.size) (hi := w.heap.size + 1) gz (fun k hk => by simp only [Option.some.injEq] at hk; omega)) (by have := S6.hg; omega) (Or.inl (by omega))
      have UZ := updNew U6 gz (Nat.le_refl _)
      go_wp2
      have X0 := RZ.c0
      have X1 := RZ.c1
      exact bodyPost_ret (v := .agg #[.int .i64 3, .int .i64 q]) (by simp [results, Tryz.results31, go_sem, X0, X1]) rfl ⟨_, _, k5, rfl, by omega, SZ, UZ⟩
    · go_wp2_with fail
      refine (c_spec_l00Src_among W0 g k3 bs _ _ _ (S3.below ((Below.refl _ _).al _)) (rd4i w3 _ _ _ _) (by omega) (by simp) (fun n e => by simp only [Value.ownBlock, Option.some.injEq] at e; have := S3.lt; omega)).mono ?_
      rintro e w5 ⟨q, k5, rfl, -, hk5, S5, U5⟩
      have hb4 : Below w3.heap.size w3 (w3.alloc (Obj.cells #[.int .i64 (-1), .int .i64 (2 ^ 4 - 1), .int .i64 (2 ^ 4), .int .i64 9223372036854775807] 2)) := (Below.refl _ _).al _
      replace T := (T.below ((Below.refl _ _).al _)).upd U5 (by omega)
      replace R0 := (R0.below ((Below.refl _ _).al _)).upd U5 (by omega)
      have hs4 := hb4.size
      have hs5 := U5.size
      have U5 := (U3.trans (Upd.of_below (lo := g) (hi := g + 1) ((Below.refl _ _).al _))).trans U5
      clear S3 U3 c0 c1 cf0 cf1
      rw [World.size_alloc] at hs4 hs5
      have c0 := T.c0
      have c1 := T.c1
      have cf1 := T.f1
      obtain ⟨T2, g2⟩ := T.set1 (.int .i64 q)
      have R2 := R0.grown g2 (by simp only [ne_eq, Option.some.injEq]; omega)
      have S6 := S5.upd (Upd.of_grown (lo := G) (hi := G + 1) g2 (fun k hk => by simp only [Option.some.injEq] at hk; omega)) (by have := S5.hg; omega) (Or.inl (by omega))
      have U6 := updNew U5 g2 (by omega)
      have d0 := T2.c0
      have d1 := T2.c1
      have r0 := R2.c0
      have r1 := R2.c1
      have rf0 := R2.f0
      have rf1 := R2.f1
      obtain ⟨RZ, gz⟩ := R2.set (.int .i64 4) (.int .i64 q)
      have SZ := S6.upd (Upd.of_grown (lo := w.heap.size) (hi := w.heap.size + 1) gz (fun k hk => by simp only [Option.some.injEq] at hk; omega)) (by have := S6.hg; omega) (Or.inl (by omega))
      have UZ := updNew U6 gz (Nat.le_refl _)
      go_wp2
      have X0 := RZ.c0
      have X1 := RZ.c1
      exact bodyPost_ret (v := .agg #[.int .i64 4, .int .i64 q]) (by simp [results, Tryz.results31, go_sem, X0, X1]) rfl ⟨_, _, k5, rfl, by omega, SZ, UZ⟩
    · go_wp2_with fail
      refine (c_spec_l00Src_among W0 g k3 bs _ _ _ (S3.below ((Below.refl _ _).al _)) (rd4i w3 _ _ _ _) (by omega) (by simp) (fun n e => by simp only [Value.ownBlock, Option.some.injEq] at e; have := S3.lt; omega)).mono ?_
      rintro e w5 ⟨q, k5, rfl, -, hk5, S5, U5⟩
      have hb4 : Below w3.heap.size w3 (w3.alloc (Obj.cells #[.int .i64 (-1), .int .i64 (2 ^ 5 - 1), .int .i64 (2 ^ 5), .int .i64 9223372036854775807] 2)) := (Below.refl _ _).al _
      replace T := (T.below ((Below.refl _ _).al _)).upd U5 (by omega)
      replace R0 := (R0.below ((Below.refl _ _).al _)).upd U5 (by omega)
      have hs4 := hb4.size
      have hs5 := U5.size
      have U5 := (U3.trans (Upd.of_below (lo := g) (hi := g + 1) ((Below.refl _ _).al _))).trans U5
      clear S3 U3 c0 c1 cf0 cf1
      rw [World.size_alloc] at hs4 hs5
      have c0 := T.c0
      have c1 := T.c1
      have cf1 := T.f1
      obtain ⟨T2, g2⟩ := T.set1 (.int .i64 q)
      have R2 := R0.grown g2 (by simp only [ne_eq, Option.some.injEq]; omega)
      have S6 := S5.upd (Upd.of_grown (lo := G) (hi := G + 1) g2 (fun k hk => by simp only [Option.some.injEq] at hk; omega)) (by have := S5.hg; omega) (Or.inl (by omega))
      have U6 := updNew U5 g2 (by omega)
      have d0 := T2.c0
      have d1 := T2.c1
      have r0 := R2.c0
      have r1 := R2.c1
      have rf0 := R2.f0
      have rf1 := R2.f1
      obtain ⟨RZ, gz⟩ := R2.set (.int .i64 5) (.int .i64 q)
      have SZ := S6.upd (Upd.of_grown (lo := w.heap.size) (hi := w.heap.size + 1) gz (fun k hk => by simp only [Option.some.injEq] at hk; omega)) (by have := S6.hg; omega) (Or.inl (by omega))
      have UZ := updNew U6 gz (Nat.le_refl _)
      go_wp2
      have X0 := RZ.c0
      have X1 := RZ.c1
      exact bodyPost_ret (v := .agg #[.int .i64 5, .int .i64 q]) (by simp [results, Tryz.results31, go_sem, X0, X1]) rfl ⟨_, _, k5, rfl, by omega, SZ, UZ⟩
    · go_wp2_with fail
      refine (c_spec_l00Src_among W0 g k3 bs _ _ _ (S3.below ((Below.refl _ _).al _)) (rd4i w3 _ _ _ _) (by omega) (by simp) (fun n e => by simp only [Value.ownBlock, Option.some.injEq] at e; have := S3.lt; omega)).mono ?_
      rintro e w5 ⟨q, k5, rfl, -, hk5, S5, U5⟩
      have hb4 : Below w3.heap.size w3 (w3.alloc (Obj.cells #[.int .i64 (-1), .int .i64 (2 ^ 6 - 1), .int .i64 (2 ^ 6), .int .i64 9223372036854775807] 2)) := (Below.refl _ _).al _
      replace T := (T.below ((Below.refl _ _).al _)).upd U5 (by omega)
      replace R0 := (R0.below ((Below.refl _ _).al _)).upd U5 (by omega)
      have hs4 := hb4.size
      have hs5 := U5.size
      have U5 := (U3.trans (Upd.of_below (lo := g) (hi := g + 1) ((Below.refl _ _).al _))).trans U5
      clear S3 U3 c0 c1 cf0 cf1
      rw [World.size_alloc] at hs4 hs5
      have c0 := T.c0
      have c1 := T.c1
      have cf1 := T.f1
      obtain ⟨T2, g2⟩ := T.set1 (.int .i64 q)
      have R2 := R0.grown g2 (by simp only [ne_eq, Option.some.injEq]; omega)
      have S6 := S5.upd (Upd.of_grown (lo := G) (hi := G + 1) g2 (fun k hk => by simp only [Option.some.injEq] at hk; omega)) (by have := S5.hg; omega) (Or.inl (by omega))
      have U6 := updNew U5 g2 (by omega)
      have d0 := T2.c0
      have d1 := T2.c1
      have r0 := R2.c0
      have r1 := R2.c1
      have rf0 := R2.f0
      have rf1 := R2.f1
      obtain ⟨RZ, gz⟩ := R2.set (.int .i64 6) (.int .i64 q)
      have SZ := S6.upd (Upd.of_grown (lo := w.heap.size) (hi := w.heap.size + 1) gz (fun k hk => by simp only [Option.some.injEq] at hk; omega)) (by have := S6.hg; omega) (Or.inl (by omega))
      have UZ := updNew U6 gz (Nat.le_refl _)
      go_wp2
      have X0 := RZ.c0
      have X1 := RZ.c1
      exact bodyPost_ret (v := .agg #[.int .i64 6, .int .i64 q]) (by simp [results, Tryz.results31, go_sem, X0, X1]) rfl ⟨_, _, k5, rfl, by omega, SZ, UZ⟩
    · go_wp2_with fail
      refine (c_spec_l00Src_among W0 g k3 bs _ _ _ (S3.below ((Below.refl _ _).al _)) (rd4i w3 _ _ _ _) (by omega) (by simp) (fun n e => by simp only [Value.ownBlock, Option.some.injEq] at e; have := S3.lt; omega)).mono ?_
      rintro e w5 ⟨q, k5, rfl, -, hk5, S5, U5⟩
      have hb4 : Below w3.heap.size w3 (w3.alloc (Obj.cells #[.int .i64 (-1), .int .i64 (2 ^ 7 - 1), .int .i64 (2 ^ 7), .int .i64 9223372036854775807] 2)) := (Below.refl _ _).al _
      replace T := (T.below ((Below.refl _ _).al _)).upd U5 (by omega)
      replace R0 := (R0.below ((Below.refl _ _).al _)).upd U5 (by omega)
      have hs4 := hb4.size
      have hs5 := U5.size
      have U5 := (U3.trans (Upd.of_below (lo := g) (hi := g + 1) ((Below.refl _ _).al _))).trans U5
      clear S3 U3 c0 c1 cf0 cf1
      rw [World.size_alloc] at hs4 hs5
      have c0 := T.c0
      have c1 := T.c1
      have cf1 := T.f1
      obtain ⟨T2, g2⟩ := T.set1 (.int .i64 q)
      have R2 := R0.grown g2 (by simp only [ne_eq, Option.some.injEq]; omega)
      have S6 := S5.upd (Upd.of_grown (lo := G) (hi := G + 1) g2 (fun k hk => by simp only [Option.some.injEq] at hk; omega)) (by have := S5.hg; omega) (Or.inl (by omega))
      have U6 := updNew U5 g2 (by omega)
      have d0 := T2.c0
      have d1 := T2.c1
      have r0 := R2.c0
      have r1 := R2.c1
      have rf0 := R2.f0
      have rf1 := R2.f1
      obtain ⟨RZ, gz⟩ := R2.set (.int .i64 7) (.int .i64 q)
      have SZ := S6.upd (Upd.of_grown (lo := w.heap.size) (hi := w.heap.size + 1) gz (fun k hk => by simp only [Option.some.injEq] at hk; omega)) (by have := S6.hg; omega) (Or.inl (by omega))
      have UZ := updNew U6 gz (Nat.le_refl _)
      go_wp2
      have X0 := RZ.c0
      have X1 := RZ.c1
      exact bodyPost_ret (v := .agg #[.int .i64 7, .int .i64 q]) (by simp [results, Tryz.results31, go_sem, X0, X1]) rfl ⟨_, _, k5, rfl, by omega, SZ, UZ⟩
  · have t1 : (x == 1) = false := beq_eq_false_iff_ne.2 h1
    have T2 := T
    have R2 := R0
    have S6 := S3
    have U6 := U3
    clear h0 h1
    have d0 := T2.c0
    have d1 := T2.c1
    have r0 := R2.c0
    have r1 := R2.c1
    have rf0 := R2.f0
    have rf1 := R2.f1
    obtain ⟨RZ, gz⟩ := R2.set (.int .i64 H) (.int .i64 m)
    have SZ := S6.upd (Upd.of_grown (lo := w.heap.size) (hi := w.heap.size + 1) gz (fun k hk => by simp only [Option.some.injEq] at hk; omega)) (by have := S6.hg; omega) (Or.inl (by omega))
    have UZ := updNew U6 gz (Nat.le_refl _)
    go_wp2
    have X0 := RZ.c0
    have X1 := RZ.c1
    exact bodyPost_ret (v := .agg #[.int .i64 H, .int .i64 m]) (by simp [results, Tryz.results31, go_sem, X0, X1]) rfl ⟨_, _, k3, rfl, by omega, SZ, UZ⟩
end Go.Proofs.YtioemkdapoombaaGreatDoor
