/- The law OrdersX: what it rests on, part 40 of 48. -/
import Derived.Test.YtgcmnpimkfmccaaQOrdersX38
import Derived.Test.YtgcmnpimkfmccaaQOrdersX39
namespace Go.Proofs.Ytgcmnpimkfmccaa
open Go.ChangeShapes Go.WideShapes Go.ChangeAt Go.RowKit
set_option linter.unusedSimpArgs false
set_option linter.unusedVariables false
theorem rd2 (w : World) (a b : Int) : RdI (w.alloc (Obj.cells #[.int .i64 a, .int .i64 b] 2)) (.slice (some ⟨w.heap.size, 0, none⟩) 2 2) [a, b] := by
  refine ⟨_, _, rfl, by simp, fun k hk => ⟨w.heap.size, 0, rfl, ?_⟩⟩
  have hk' : k < 2 := by simpa using hk
  have : k = 0 ∨ k = 1 := by omega
  rcases this with rfl | rfl <;> exact World.cell?_alloc_at _ _ _ _ rfl
set_option maxHeartbeats 16000000 in
set_option maxRecDepth 100000 in
theorem c_spec_DrawAppendPart (bs : List Int) (v : Value) (w : World) (h : RdB w v bs) :
    Calls Try.prog 12 #[v] w fun e w' => ∃ (u : Value) (X : List Part2) (H : Int) (z : Value) (xs : List Int) (tm : Int), e = .returned (.tuple #[.agg #[.int .i64 H, u], .agg #[z, .int .i64 tm]]) ∧ RdP w' u X ∧ RdI w' z xs ∧ Below w.heap.size w w' := by
  obtain ⟨w0, hw0, RB, PB, B0⟩ := twoBox w 26 34 (.int .i64 0) (.slice none 0 0) (.slice none 0 0) (.int .i64 0)
  have hs0 : w0.heap.size = w.heap.size + 2 := by rw [hw0, World.size_alloc, World.size_alloc]
  go_enter Try.func12, Try.ntmps12
  go_wp2_with fail
  rw [← hw0]
  clear hw0
  refine (c_spec_l00From bs v _ (h.below B0)).mono ?_; rintro e w1 ⟨rfl, S1, hb1⟩
  have hs1 := hb1.size
  have hg1 := S1.lt
  obtain ⟨g, hg⟩ : ∃ g, w0.heap.size = g := ⟨_, rfl⟩
  rw [hg] at S1 hg1 hs0 ⊢
  have hg0 : w.heap.size + 2 ≤ g ∧ g ≤ w.heap.size + 2 := by omega
  have hgw : w0.heap.size ≤ g := by omega
  clear hs0 hg
  replace RB := RB.below hb1
  replace PB := PB.below hb1
  have B1 := B0.tr hb1
  clear hb1 B0 hs1
  go_wp2_with fail
  refine (c_spec_l19BentB w0 g 0 bs _ S1 (by omega)).mono ?_; rintro e w2 ⟨u, X, H, k2, rfl, hD, hk2, S2, U2, hXB⟩
  have HXL := Lib.hid (getD0_len hXB)
  clear hXB
  have hs2 := U2.size
  replace RB := RB.upd U2 (by omega)
  replace PB := PB.upd U2 (by omega)
  have B2 := B1.trans (U2.below (show w.heap.size ≤ g by omega) (by omega))
  obtain ⟨au, cu, hu, -⟩ := hD.rd
  obtain ⟨LX, hLX⟩ : ∃ LX, X.length = LX := ⟨_, rfl⟩
  have HLX := Lib.hid hLX
  rw [hLX] at hu
  subst hu
  clear hLX S1 U2 B1
  have T5 := VBox.new w2 26 (.int .i64 H) (.slice au LX cu)
  have hb3 : Below w2.heap.size w2 (w2.alloc (Obj.cells #[.int .i64 H, .slice au LX cu] 26)) := (Below.refl _ _).al _
  have hl5 := T5.lt
  go_wp2_with fail
  replace RB := RB.below hb3
  replace PB := PB.below hb3
  replace hD := hD.below hb3
  have S3 := S2.below hb3
  have B3 := B2.tr hb3
  obtain ⟨G, hG⟩ : ∃ G, w2.heap.size = G := ⟨_, rfl⟩
  rw [hG] at T5 hD hs2 hl5 ⊢
  generalize (w2.alloc (Obj.cells #[.int .i64 H, .slice au LX cu] 26)) = w3 at *
  clear S2 B2 hb3 hG
  refine (c_spec_l00Src_pick w0 g k2 bs 3 _ S3 (by omega) (by omega)).mono ?_; rintro e w4 ⟨x4, k4, rfl, hx0, hx1, -, hk4, S4, U4⟩
  have hx := hx1 (by omega)
  have hs4 := U4.size
  replace RB := RB.upd U4 (by omega)
  replace PB := PB.upd U4 (by omega)
  replace T5 := T5.upd U4 (by omega)
  replace hD := hD.upd U4 (Or.inr (by omega))
  have B4 := B3.trans (U4.below (show w.heap.size ≤ g by omega) B3.size)
  obtain ⟨P, hP⟩ : ∃ P, 2 + x4 = P := ⟨_, rfl⟩
  have hPb : 0 ≤ P ∧ P ≤ 15 := by omega
  have hwP : IntKind.i64.wrap (2 + x4) = P := by rw [hP]; exact IntWalk.i64_in _ (by omega)
  clear hx1 S3 U4 B3 hP
  go_wp2_with fail
  refine (c_spec_l19Pattern w0 g k4 bs P _ S4 (by omega) hPb).mono ?_; rintro e w5 ⟨z, zs, k5, rfl, hz, -, hz12, hk5, S5, U5⟩
  have hs5 := U5.size
  replace RB := RB.upd U5 (by omega)
  replace PB := PB.upd U5 (by omega)
  replace T5 := T5.upd U5 (by omega)
  replace hD := hD.upd U5 (Or.inr (by omega))
  have B5 := B4.trans (U5.below (show w.heap.size ≤ g by omega) B4.size)
  clear S4 U5 B4
  go_wp2_with fail
  refine (c_spec_l00Src_pick w0 g k5 bs 4 _ S5 (by omega) (by omega)).mono ?_; rintro e w6 ⟨x6, k6, rfl, hy0, hy1, -, hk6, S6, U6⟩
  have hy := hy1 (by omega)
  have hs6 := U6.size
  replace RB := RB.upd U6 (by omega)
  replace PB := PB.upd U6 (by omega)
  replace T5 := T5.upd U6 (by omega)
  replace hD := hD.upd U6 (Or.inr (by omega))
  have hz6 := rdI_updV hz.rd U6 (fun k e => by have := OwnI.gt hz.1 k e; omega)
  have B6 := B5.trans (U6.below (show w.heap.size ≤ g by omega) B5.size)
  obtain ⟨tm, htm⟩ : ∃ tm, 1 + x6 = tm := ⟨_, rfl⟩
  have hwt : IntKind.i64.wrap (1 + x6) = tm := by rw [htm]; exact IntWalk.i64_in _ (by omega)
  obtain ⟨az, cz, rfl, -, -⟩ := hz6
  have hzo : ∀ k, Value.ownBlock (.slice az zs.length cz) = some k → g + 1 ≤ k ∧ k ≠ G ∧ k < w6.heap.size := fun k e => by have h1 := OwnI.gt hz.1 k e; have h2 := hz.2 k e; omega
  have hz6 : RdI w6 (.slice az zs.length cz) zs := rdI_updV hz.rd U6 (fun k e => by have := OwnI.gt hz.1 k e; omega)
  clear hy1 S5 U6 B5 htm hz
  have T6 := VBox.new w6 34 (.slice az zs.length cz) (.int .i64 tm)
  have hb7 : Below w6.heap.size w6 (w6.alloc (Obj.cells #[.slice az zs.length cz, .int .i64 tm] 34)) := (Below.refl _ _).al _
  have hl6 := T6.lt
  have t51 := keepc hb7 T5.c1
  by_cases hL : 0 < LX
  · have hL1 : (0 : Int) < (LX : Int) := by omega
    go_wp2_with fail
    replace RB := RB.below hb7
    replace PB := PB.below hb7
    replace T5 := T5.below hb7
    replace hD := hD.below hb7
    have S7 := S6.below hb7
    have B7 := B6.tr hb7
    have hz7 := hz6.below hb7
    obtain ⟨F, hF⟩ : ∃ F, w6.heap.size = F := ⟨_, rfl⟩
    rw [hF] at T6 hs6 hl6 hzo ⊢
    generalize (w6.alloc (Obj.cells #[.slice az zs.length cz, .int .i64 tm] 34)) = w7 at *
    clear t51 S6 B6 hb7 hz6 hF
    refine (c_spec_l00Src_one w0 g k6 bs 2 _ S7 (by omega) (by omega)).mono ?_; rintro e wq ⟨bq, kq, rfl, hkq, Sq, Uq⟩
    have hsq := Uq.size
    replace RB := RB.upd Uq (by omega)
    replace PB := PB.upd Uq (by omega)
    replace T5 := T5.upd Uq (by omega)
    replace T6 := T6.upd Uq (by omega)
    replace hD := hD.upd Uq (Or.inr (by omega))
    have hzq := rdI_updV hz7 Uq (fun k e => by have := hzo k e; omega)
    have Bq := B7.trans (Uq.below (show w.heap.size ≤ g by omega) B7.size)
    clear S7 Uq B7 hz7
    cases bq
    · go_wp2_with fail
      refine (c_spec_l00Src_one w0 g kq bs 16 _ Sq (by omega) (by omega)).mono ?_; rintro e wa ⟨ba, ka, rfl, hka, Sa, Ua⟩
      have hsa := Ua.size
      replace RB := RB.upd Ua (by omega)
      replace PB := PB.upd Ua (by omega)
      replace T5 := T5.upd Ua (by omega)
      replace T6 := T6.upd Ua (by omega)
      replace hD := hD.upd Ua (Or.inr (by omega))
      replace hzq := rdI_updV hzq Ua (fun k e => by have := hzo k e; omega)
      have Ba := Bq.trans (Ua.below (show w.heap.size ≤ g by omega) Bq.size)
      clear Sq Ua Bq
      cases ba
      · have r0 := RB.c0
        have r1 := RB.c1
        have rf0 := RB.f0
        have rf1 := RB.f1
        have p0 := PB.c0
        have p1 := PB.c1
        have pf0 := PB.f0
        have pf1 := PB.f1
        have s5 := T5.c0
        have s51 := T5.c1
        have s6 := T6.c0
        have s61 := T6.c1
        obtain ⟨RZ, gr⟩ := RB.set (.int .i64 H) (.slice au LX cu)
        have PB2 := PB.grown gr (by simp only [ne_eq, Option.some.injEq]; omega)
        have p20 := PB2.c0
        have p21 := PB2.c1
        have pf20 := PB2.f0
        have pf21 := PB2.f1
        obtain ⟨PZ, gp⟩ := PB2.set (.slice az zs.length cz) (.int .i64 tm)
        have RZ2 := RZ.grown gp (by simp only [ne_eq, Option.some.injEq]; omega)
        have hDr := ((hD.upd (Upd.of_grown (lo := w.heap.size) (hi := w.heap.size + 1) gr (fun k hk => by simp only [Option.some.injEq] at hk; omega)) (Or.inr (by omega))).upd (Upd.of_grown (lo := w.heap.size + 1) (hi := w.heap.size + 2) gp (fun k hk => by simp only [Option.some.injEq] at hk; omega)) (Or.inr (by omega))).rd
        have hzr := rdI_updV (rdI_updV hzq (Upd.of_grown (lo := w.heap.size) (hi := w.heap.size + 1) gr (fun k hk => by simp only [Option.some.injEq] at hk; omega)) (fun k e => by have := hzo k e; omega)) (Upd.of_grown (lo := w.heap.size + 1) (hi := w.heap.size + 2) gp (fun k hk => by simp only [Option.some.injEq] at hk; omega)) (fun k e => by have := hzo k e; omega)
        have BZ := (Ba.grown gr Ba.size (fun n e => by simp only [Option.some.injEq] at e; omega)).grown gp (Ba.grown gr Ba.size (fun n e => by simp only [Option.some.injEq] at e; omega)).size (fun n e => by simp only [Option.some.injEq] at e; omega)
        have T51 := T5.grown gr (by simp only [ne_eq, Option.some.injEq]; omega)
        have T61 := T6.grown gr (by simp only [ne_eq, Option.some.injEq]; omega)
        have T52 := T51.grown gp (by simp only [ne_eq, Option.some.injEq]; omega)
        have T62 := T61.grown gp (by simp only [ne_eq, Option.some.injEq]; omega)
        go_wp2_with fail
        refine wp_region_noPanic ?_
        refine wp_region_held_drew (S := fun w' => w'.cell? ⟨G, 0, none⟩ = some (.int .i64 H) ∧ w'.cell? ⟨G, 1, none⟩ = some (.slice au LX cu) ∧ w'.cell? ⟨F, 0, none⟩ = some (.slice az zs.length cz) ∧ w'.cell? ⟨F, 1, none⟩ = some (.int .i64 tm)) (by kernel_rfl) ?_ (fun hHeld => ?_)
        · exact ⟨s5, s51, s6, s61⟩
        (refine wpAnyH_take (i := 0) (v := ?tv1) rfl (by kernel_rfl) (by kernel_rfl) (by kernel_rfl) (fun _ _ _ h => h) (Or.inl ⟨by rfl, ?thy1⟩) (by assumption) ?trest1; case thy1 => (intro w hSw; (try dsimp only at hSw); go_simp; (try with_reducible rfl)); (try simp only [Act.put, List.getElem_toArray, List.getElem_cons_zero, List.getElem_cons_succ, List.setIfInBounds_toArray, List.set_cons_zero, List.set_cons_succ])); (refine wpAnyH_take (i := 1) (v := ?tv2) rfl (by kernel_rfl) (by kernel_rfl) (by kernel_rfl) (fun _ _ _ h => h) (Or.inl ⟨by rfl, ?thy2⟩) (by assumption) ?trest2; case thy2 => (intro w hSw; (try dsimp only at hSw); go_simp; (try with_reducible rfl)); (try simp only [Act.put, List.getElem_toArray, List.getElem_cons_zero, List.getElem_cons_succ, List.setIfInBounds_toArray, List.set_cons_zero, List.set_cons_succ]))
        refine wpAnyH_ready (rs := [2]) (by kernel_rfl) (by simp) ?_; refine AllReadyH.cons (i := 2) rfl (fun K hK => ?_) AllReadyH.nil
        go_simp
        refine hK.out _ _ ⟨T51.c0, T51.c1, T61.c0, T61.c1⟩ (fun hHeld => ?_)
        clear hK K
        (try simp only [Act.put, List.setIfInBounds_toArray, List.set_cons_zero, List.set_cons_succ])
        refine wpAnyH_ready (rs := [3]) (by kernel_rfl) (by simp) ?_; refine AllReadyH.cons (i := 3) rfl (fun K hK => ?_) AllReadyH.nil
        go_simp
        refine hK.out _ _ ⟨T52.c0, T52.c1, T62.c0, T62.c1⟩ (fun hHeld => ?_)
        clear hK K
        (try simp only [Act.put, List.setIfInBounds_toArray, List.set_cons_zero, List.set_cons_succ])
        refine wpAnyH_done (by kernel_rfl) ?_ _
        refine NoPanic.normal ?_
        go_wp2
        have X0 := RZ2.c0
        have X1 := RZ2.c1
        have Y0 := PZ.c0
        have Y1 := PZ.c1
        refine bodyPost_ret (v := .tuple #[.agg #[.int .i64 H, .slice au LX cu], .agg #[(.slice az zs.length cz), .int .i64 tm]]) (by simp [results, Try.results12, go_sem, X0, X1, Y0, Y1]) rfl ⟨_, X, H, _, _, _, rfl, hDr, hzr, BZ.dr⟩
      · have hb8 : Below wa.heap.size wa (wa.alloc (Obj.cells #[.int .i64 0, .int .i64 21] 2)) := (Below.refl _ _).al _
        have rdz := rd2 wa 0 21
        have Sb := Sa.below hb8
        go_wp2_with fail
        refine (c_spec_l00Src_among w0 g ka bs [0, 21] _ _ Sb rdz (by omega) (by simp) (fun n e => by simp only [Value.ownBlock, Option.some.injEq] at e; have := Sa.lt; omega)).mono ?_
        rintro e wb ⟨tm2, kb, rfl, -, hkb, Sc, Ub⟩
        have hsb := Ub.size
        have hs8 := hb8.size
        replace RB := (RB.below hb8).upd Ub (by omega)
        replace PB := (PB.below hb8).upd Ub (by omega)
        replace T5 := (T5.below hb8).upd Ub (by omega)
        replace T6 := (T6.below hb8).upd Ub (by omega)
        replace hD := (hD.below hb8).upd Ub (Or.inr (by omega))
        replace hzq := rdI_updV (hzq.below hb8) Ub (fun k e => by have := hzo k e; omega)
        have Bb := (Ba.tr hb8).trans (Ub.below (show w.heap.size ≤ g by omega) (Ba.tr hb8).size)
        have q0 := T6.c0
        have q1 := T6.c1
        have qf1 := T6.f1
        obtain ⟨T6', g6⟩ := T6.set1 (.int .i64 tm2)
        replace RB := RB.grown g6 (by simp only [ne_eq, Option.some.injEq]; omega)
        replace PB := PB.grown g6 (by simp only [ne_eq, Option.some.injEq]; omega)
        replace T5 := T5.grown g6 (by simp only [ne_eq, Option.some.injEq]; omega)
        replace hD := hD.upd (Upd.of_grown (lo := F) (hi := F + 1) g6 (fun k hk => by simp only [Option.some.injEq] at hk; omega)) (Or.inl (by omega))
        replace hzq := rdI_updV hzq (Upd.of_grown (lo := F) (hi := F + 1) g6 (fun k hk => by simp only [Option.some.injEq] at hk; omega)) (fun k e => by have := hzo k e; omega)
        replace Ba := Bb.grown g6 Bb.size (fun n e => by simp only [Option.some.injEq] at e; omega)
        clear Sa Sb Sc Ub hb8 rdz Bb T6
        have hgs := g6.size
        go_wp2_with fail
        clear q0 q1 qf1 g6
        generalize (wb.setCell ⟨F, 1, none⟩ (.int .i64 tm2)) = wc at *
        have r0 := RB.c0
        have r1 := RB.c1
        have rf0 := RB.f0
        have rf1 := RB.f1
        have p0 := PB.c0
        have p1 := PB.c1
        have pf0 := PB.f0
        have pf1 := PB.f1
        have s5 := T5.c0
        have s51 := T5.c1
        have s6 := T6'.c0
        have s61 := T6'.c1
        obtain ⟨RZ, gr⟩ := RB.set (.int .i64 H) (.slice au LX cu)
        have PB2 := PB.grown gr (by simp only [ne_eq, Option.some.injEq]; omega)
        have p20 := PB2.c0
        have p21 := PB2.c1
        have pf20 := PB2.f0
        have pf21 := PB2.f1
        obtain ⟨PZ, gp⟩ := PB2.set (.slice az zs.length cz) (.int .i64 tm2)
        have RZ2 := RZ.grown gp (by simp only [ne_eq, Option.some.injEq]; omega)
        have hDr := ((hD.upd (Upd.of_grown (lo := w.heap.size) (hi := w.heap.size + 1) gr (fun k hk => by simp only [Option.some.injEq] at hk; omega)) (Or.inr (by omega))).upd (Upd.of_grown (lo := w.heap.size + 1) (hi := w.heap.size + 2) gp (fun k hk => by simp only [Option.some.injEq] at hk; omega)) (Or.inr (by omega))).rd
        have hzr := rdI_updV (rdI_updV hzq (Upd.of_grown (lo := w.heap.size) (hi := w.heap.size + 1) gr (fun k hk => by simp only [Option.some.injEq] at hk; omega)) (fun k e => by have := hzo k e; omega)) (Upd.of_grown (lo := w.heap.size + 1) (hi := w.heap.size + 2) gp (fun k hk => by simp only [Option.some.injEq] at hk; omega)) (fun k e => by have := hzo k e; omega)
        have BZ := (Ba.grown gr Ba.size (fun n e => by simp only [Option.some.injEq] at e; omega)).grown gp (Ba.grown gr Ba.size (fun n e => by simp only [Option.some.injEq] at e; omega)).size (fun n e => by simp only [Option.some.injEq] at e; omega)
        have T51 := T5.grown gr (by simp only [ne_eq, Option.some.injEq]; omega)
        have T61 := T6'.grown gr (by simp only [ne_eq, Option.some.injEq]; omega)
        have T52 := T51.grown gp (by simp only [ne_eq, Option.some.injEq]; omega)
        have T62 := T61.grown gp (by simp only [ne_eq, Option.some.injEq]; omega)
        refine wp_region_noPanic ?_
        refine wp_region_held_drew (S := fun w' => w'.cell? ⟨G, 0, none⟩ = some (.int .i64 H) ∧ w'.cell? ⟨G, 1, none⟩ = some (.slice au LX cu) ∧ w'.cell? ⟨F, 0, none⟩ = some (.slice az zs.length cz) ∧ w'.cell? ⟨F, 1, none⟩ = some (.int .i64 tm2)) (by kernel_rfl) ?_ (fun hHeld => ?_)
        · exact ⟨s5, s51, s6, s61⟩
        (refine wpAnyH_take (i := 0) (v := ?tv3) rfl (by kernel_rfl) (by kernel_rfl) (by kernel_rfl) (fun _ _ _ h => h) (Or.inl ⟨by rfl, ?thy3⟩) (by assumption) ?trest3; case thy3 => (intro w hSw; (try dsimp only at hSw); go_simp; (try with_reducible rfl)); (try simp only [Act.put, List.getElem_toArray, List.getElem_cons_zero, List.getElem_cons_succ, List.setIfInBounds_toArray, List.set_cons_zero, List.set_cons_succ])); (refine wpAnyH_take (i := 1) (v := ?tv4) rfl (by kernel_rfl) (by kernel_rfl) (by kernel_rfl) (fun _ _ _ h => h) (Or.inl ⟨by rfl, ?thy4⟩) (by assumption) ?trest4; case thy4 => (intro w hSw; (try dsimp only at hSw); go_simp; (try with_reducible rfl)); (try simp only [Act.put, List.getElem_toArray, List.getElem_cons_zero, List.getElem_cons_succ, List.setIfInBounds_toArray, List.set_cons_zero, List.set_cons_succ]))
        refine wpAnyH_ready (rs := [2]) (by kernel_rfl) (by simp) ?_; refine AllReadyH.cons (i := 2) rfl (fun K hK => ?_) AllReadyH.nil
        go_simp
        refine hK.out _ _ ⟨T51.c0, T51.c1, T61.c0, T61.c1⟩ (fun hHeld => ?_)
        clear hK K
        (try simp only [Act.put, List.setIfInBounds_toArray, List.set_cons_zero, List.set_cons_succ])
        refine wpAnyH_ready (rs := [3]) (by kernel_rfl) (by simp) ?_; refine AllReadyH.cons (i := 3) rfl (fun K hK => ?_) AllReadyH.nil
        go_simp
        refine hK.out _ _ ⟨T52.c0, T52.c1, T62.c0, T62.c1⟩ (fun hHeld => ?_)
        clear hK K
        (try simp only [Act.put, List.setIfInBounds_toArray, List.set_cons_zero, List.set_cons_succ])
        refine wpAnyH_done (by kernel_rfl) ?_ _
        refine NoPanic.normal ?_
        go_wp2
        have X0 := RZ2.c0
        have X1 := RZ2.c1
        have Y0 := PZ.c0
        have Y1 := PZ.c1
        refine bodyPost_ret (v := .tuple #[.agg #[.int .i64 H, .slice au LX cu], .agg #[(.slice az zs.length cz), .int .i64 tm2]]) (by simp [results, Try.results12, go_sem, X0, X1, Y0, Y1]) rfl ⟨_, X, H, _, _, _, rfl, hDr, hzr, BZ.dr⟩
    · obtain ⟨gx, cx, hex, hx1, hx2⟩ := hD.slice (by rw [HLX.out]; exact hL)
      rw [HLX.out] at hex
      cases hex
      obtain ⟨y0, c0, c1, -, -, hy0r, hy0o⟩ := hD.at (i := 0) (by rw [HLX.out]; exact hL)
      have hyl : (X.getD 0 pZ).1.length ≤ 1000000 := by
        exact Nat.le_trans HXL.out (by decide)
      obtain ⟨y0s, hy0s⟩ : ∃ s, (X.getD 0 pZ).1 = s := ⟨_, rfl⟩
      obtain ⟨y0t, hy0t⟩ : ∃ s, (X.getD 0 pZ).2 = s := ⟨_, rfl⟩
      rw [hy0s] at hy0r hyl
      rw [hy0t] at c1
      simp only [Nat.zero_mul, Nat.zero_add] at c0 c1
      have t51 := T5.c1
      clear hzq hzo
      go_wp2_with fail
      refine (c_spec_l19Own y0s y0t y0 gx 0 _ c0 c1 hy0r hyl).mono ?_; rintro e wr ⟨uy, rfl, hou, hbr⟩
      have hsr := hbr.size
      replace RB := RB.below hbr
      replace PB := PB.below hbr
      replace T5 := T5.below hbr
      replace T6 := T6.below hbr
      replace hD := hD.below hbr
      have Sr := Sq.below hbr
      have Br := Bq.tr hbr
      obtain ⟨ay, cy, rfl, -, -⟩ := hou.rd
      have hzo : ∀ k, Value.ownBlock (.slice ay y0s.length cy) = some k → g + 1 ≤ k ∧ k ≠ G ∧ k ≠ F := fun k e => by have h1 := OwnI.gt hou k e; omega
      obtain ⟨T6q, g6⟩ := T6.set (.slice ay y0s.length cy) (.int .i64 y0t)
      have q0 := T6.c0
      have q1 := T6.c1
      have qf0 := T6.f0
      have qf1 := T6.f1
      replace RB := RB.grown g6 (by simp only [ne_eq, Option.some.injEq]; omega)
      replace PB := PB.grown g6 (by simp only [ne_eq, Option.some.injEq]; omega)
      replace T5 := T5.grown g6 (by simp only [ne_eq, Option.some.injEq]; omega)
      replace hD := hD.upd (Upd.of_grown (lo := F) (hi := F + 1) g6 (fun k hk => by simp only [Option.some.injEq] at hk; omega)) (Or.inl (by omega))
      have hzq := rdI_updV hou.rd (Upd.of_grown (lo := F) (hi := F + 1) g6 (fun k hk => by simp only [Option.some.injEq] at hk; omega)) (fun k e => by have := hzo k e; omega)
      replace Sq := Sr.upd (Upd.of_grown (lo := F) (hi := F + 1) g6 (fun k hk => by simp only [Option.some.injEq] at hk; omega)) (by omega) (Or.inl (by omega))
      replace Bq := Br.grown g6 Br.size (fun n e => by simp only [Option.some.injEq] at e; omega)
      have hsz6 := g6.size
      clear Sr Br hou hbr T6 c0 c1 t51 hy0r
      have T6 := T6q
      clear T6q
      go_wp2_with fail
      refine (c_spec_l00Src_one w0 g kq bs 16 _ Sq (by omega) (by omega)).mono ?_; rintro e wa ⟨ba, ka, rfl, hka, Sa, Ua⟩
      have hsa := Ua.size
      replace RB := RB.upd Ua (by omega)
      replace PB := PB.upd Ua (by omega)
      replace T5 := T5.upd Ua (by omega)
      replace T6 := T6.upd Ua (by omega)
      replace hD := hD.upd Ua (Or.inr (by omega))
      replace hzq := rdI_updV hzq Ua (fun k e => by have := hzo k e; omega)
      have Ba := Bq.trans (Ua.below (show w.heap.size ≤ g by omega) Bq.size)
      clear Sq Ua Bq
      cases ba
      · have r0 := RB.c0
        have r1 := RB.c1
        have rf0 := RB.f0
        have rf1 := RB.f1
        have p0 := PB.c0
        have p1 := PB.c1
        have pf0 := PB.f0
        have pf1 := PB.f1
        have s5 := T5.c0
        have s51 := T5.c1
        have s6 := T6.c0
        have s61 := T6.c1
        obtain ⟨RZ, gr⟩ := RB.set (.int .i64 H) (.slice (some ⟨gx, 0, none⟩) LX cu)
        have PB2 := PB.grown gr (by simp only [ne_eq, Option.some.injEq]; omega)
        have p20 := PB2.c0
        have p21 := PB2.c1
        have pf20 := PB2.f0
        have pf21 := PB2.f1
        obtain ⟨PZ, gp⟩ := PB2.set (.slice ay y0s.length cy) (.int .i64 y0t)
        have RZ2 := RZ.grown gp (by simp only [ne_eq, Option.some.injEq]; omega)
        have hDr := ((hD.upd (Upd.of_grown (lo := w.heap.size) (hi := w.heap.size + 1) gr (fun k hk => by simp only [Option.some.injEq] at hk; omega)) (Or.inr (by omega))).upd (Upd.of_grown (lo := w.heap.size + 1) (hi := w.heap.size + 2) gp (fun k hk => by simp only [Option.some.injEq] at hk; omega)) (Or.inr (by omega))).rd
        have hzr := rdI_updV (rdI_updV hzq (Upd.of_grown (lo := w.heap.size) (hi := w.heap.size + 1) gr (fun k hk => by simp only [Option.some.injEq] at hk; omega)) (fun k e => by have := hzo k e; omega)) (Upd.of_grown (lo := w.heap.size + 1) (hi := w.heap.size + 2) gp (fun k hk => by simp only [Option.some.injEq] at hk; omega)) (fun k e => by have := hzo k e; omega)
        have BZ := (Ba.grown gr Ba.size (fun n e => by simp only [Option.some.injEq] at e; omega)).grown gp (Ba.grown gr Ba.size (fun n e => by simp only [Option.some.injEq] at e; omega)).size (fun n e => by simp only [Option.some.injEq] at e; omega)
        have T51 := T5.grown gr (by simp only [ne_eq, Option.some.injEq]; omega)
        have T61 := T6.grown gr (by simp only [ne_eq, Option.some.injEq]; omega)
        have T52 := T51.grown gp (by simp only [ne_eq, Option.some.injEq]; omega)
        have T62 := T61.grown gp (by simp only [ne_eq, Option.some.injEq]; omega)
        go_wp2_with fail
        refine wp_region_noPanic ?_
        refine wp_region_held_drew (S := fun w' => w'.cell? ⟨G, 0, none⟩ = some (.int .i64 H) ∧ w'.cell? ⟨G, 1, none⟩ = some (.slice (some ⟨gx, 0, none⟩) LX cu) ∧ w'.cell? ⟨F, 0, none⟩ = some (.slice ay y0s.length cy) ∧ w'.cell? ⟨F, 1, none⟩ = some (.int .i64 y0t)) (by kernel_rfl) ?_ (fun hHeld => ?_)
        · exact ⟨s5, s51, s6, s61⟩
        (refine wpAnyH_take (i := 0) (v := ?tv5) rfl (by kernel_rfl) (by kernel_rfl) (by kernel_rfl) (fun _ _ _ h => h) (Or.inl ⟨by rfl, ?thy5⟩) (by assumption) ?trest5; case thy5 => (intro w hSw; (try dsimp only at hSw); go_simp; (try with_reducible rfl)); (try simp only [Act.put, List.getElem_toArray, List.getElem_cons_zero, List.getElem_cons_succ, List.setIfInBounds_toArray, List.set_cons_zero, List.set_cons_succ])); (refine wpAnyH_take (i := 1) (v := ?tv6) rfl (by kernel_rfl) (by kernel_rfl) (by kernel_rfl) (fun _ _ _ h => h) (Or.inl ⟨by rfl, ?thy6⟩) (by assumption) ?trest6; case thy6 => (intro w hSw; (try dsimp only at hSw); go_simp; (try with_reducible rfl)); (try simp only [Act.put, List.getElem_toArray, List.getElem_cons_zero, List.getElem_cons_succ, List.setIfInBounds_toArray, List.set_cons_zero, List.set_cons_succ]))
        refine wpAnyH_ready (rs := [2]) (by kernel_rfl) (by simp) ?_; refine AllReadyH.cons (i := 2) rfl (fun K hK => ?_) AllReadyH.nil
        go_simp
        refine hK.out _ _ ⟨T51.c0, T51.c1, T61.c0, T61.c1⟩ (fun hHeld => ?_)
        clear hK K
        (try simp only [Act.put, List.setIfInBounds_toArray, List.set_cons_zero, List.set_cons_succ])
        refine wpAnyH_ready (rs := [3]) (by kernel_rfl) (by simp) ?_; refine AllReadyH.cons (i := 3) rfl (fun K hK => ?_) AllReadyH.nil
        go_simp
        refine hK.out _ _ ⟨T52.c0, T52.c1, T62.c0, T62.c1⟩ (fun hHeld => ?_)
        clear hK K
        (try simp only [Act.put, List.setIfInBounds_toArray, List.set_cons_zero, List.set_cons_succ])
        refine wpAnyH_done (by kernel_rfl) ?_ _
        refine NoPanic.normal ?_
        go_wp2
        have X0 := RZ2.c0
        have X1 := RZ2.c1
        have Y0 := PZ.c0
        have Y1 := PZ.c1
        refine bodyPost_ret (v := .tuple #[.agg #[.int .i64 H, .slice (some ⟨gx, 0, none⟩) LX cu], .agg #[(.slice ay y0s.length cy), .int .i64 y0t]]) (by simp [results, Try.results12, go_sem, X0, X1, Y0, Y1]) rfl ⟨_, X, H, _, _, _, rfl, hDr, hzr, BZ.dr⟩
      · have hb8 : Below wa.heap.size wa (wa.alloc (Obj.cells #[.int .i64 0, .int .i64 21] 2)) := (Below.refl _ _).al _
        have rdz := rd2 wa 0 21
        have Sb := Sa.below hb8
        go_wp2_with fail
        refine (c_spec_l00Src_among w0 g ka bs [0, 21] _ _ Sb rdz (by omega) (by simp) (fun n e => by simp only [Value.ownBlock, Option.some.injEq] at e; have := Sa.lt; omega)).mono ?_
        rintro e wb ⟨tm2, kb, rfl, -, hkb, Sc, Ub⟩
        have hsb := Ub.size
        have hs8 := hb8.size
        replace RB := (RB.below hb8).upd Ub (by omega)
        replace PB := (PB.below hb8).upd Ub (by omega)
        replace T5 := (T5.below hb8).upd Ub (by omega)
        replace T6 := (T6.below hb8).upd Ub (by omega)
        replace hD := (hD.below hb8).upd Ub (Or.inr (by omega))
        replace hzq := rdI_updV (hzq.below hb8) Ub (fun k e => by have := hzo k e; omega)
        have Bb := (Ba.tr hb8).trans (Ub.below (show w.heap.size ≤ g by omega) (Ba.tr hb8).size)
        have q0 := T6.c0
        have q1 := T6.c1
        have qf1 := T6.f1
        obtain ⟨T6', g6⟩ := T6.set1 (.int .i64 tm2)
        replace RB := RB.grown g6 (by simp only [ne_eq, Option.some.injEq]; omega)
        replace PB := PB.grown g6 (by simp only [ne_eq, Option.some.injEq]; omega)
        replace T5 := T5.grown g6 (by simp only [ne_eq, Option.some.injEq]; omega)
        replace hD := hD.upd (Upd.of_grown (lo := F) (hi := F + 1) g6 (fun k hk => by simp only [Option.some.injEq] at hk; omega)) (Or.inl (by omega))
        replace hzq := rdI_updV hzq (Upd.of_grown (lo := F) (hi := F + 1) g6 (fun k hk => by simp only [Option.some.injEq] at hk; omega)) (fun k e => by have := hzo k e; omega)
        replace Ba := Bb.grown g6 Bb.size (fun n e => by simp only [Option.some.injEq] at e; omega)
        clear Sa Sb Sc Ub hb8 rdz Bb T6
        have hgs := g6.size
        go_wp2_with fail
        clear q0 q1 qf1 g6
        generalize (wb.setCell ⟨F, 1, none⟩ (.int .i64 tm2)) = wc at *
        have r0 := RB.c0
        have r1 := RB.c1
        have rf0 := RB.f0
        have rf1 := RB.f1
        have p0 := PB.c0
        have p1 := PB.c1
        have pf0 := PB.f0
        have pf1 := PB.f1
        have s5 := T5.c0
        have s51 := T5.c1
        have s6 := T6'.c0
        have s61 := T6'.c1
        obtain ⟨RZ, gr⟩ := RB.set (.int .i64 H) (.slice (some ⟨gx, 0, none⟩) LX cu)
        have PB2 := PB.grown gr (by simp only [ne_eq, Option.some.injEq]; omega)
        have p20 := PB2.c0
        have p21 := PB2.c1
        have pf20 := PB2.f0
        have pf21 := PB2.f1
        obtain ⟨PZ, gp⟩ := PB2.set (.slice ay y0s.length cy) (.int .i64 tm2)
        have RZ2 := RZ.grown gp (by simp only [ne_eq, Option.some.injEq]; omega)
        have hDr := ((hD.upd (Upd.of_grown (lo := w.heap.size) (hi := w.heap.size + 1) gr (fun k hk => by simp only [Option.some.injEq] at hk; omega)) (Or.inr (by omega))).upd (Upd.of_grown (lo := w.heap.size + 1) (hi := w.heap.size + 2) gp (fun k hk => by simp only [Option.some.injEq] at hk; omega)) (Or.inr (by omega))).rd
        have hzr := rdI_updV (rdI_updV hzq (Upd.of_grown (lo := w.heap.size) (hi := w.heap.size + 1) gr (fun k hk => by simp only [Option.some.injEq] at hk; omega)) (fun k e => by have := hzo k e; omega)) (Upd.of_grown (lo := w.heap.size + 1) (hi := w.heap.size + 2) gp (fun k hk => by simp only [Option.some.injEq] at hk; omega)) (fun k e => by have := hzo k e; omega)
        have BZ := (Ba.grown gr Ba.size (fun n e => by simp only [Option.some.injEq] at e; omega)).grown gp (Ba.grown gr Ba.size (fun n e => by simp only [Option.some.injEq] at e; omega)).size (fun n e => by simp only [Option.some.injEq] at e; omega)
        have T51 := T5.grown gr (by simp only [ne_eq, Option.some.injEq]; omega)
        have T61 := T6'.grown gr (by simp only [ne_eq, Option.some.injEq]; omega)
        have T52 := T51.grown gp (by simp only [ne_eq, Option.some.injEq]; omega)
        have T62 := T61.grown gp (by simp only [ne_eq, Option.some.injEq]; omega)
        refine wp_region_noPanic ?_
        refine wp_region_held_drew (S := fun w' => w'.cell? ⟨G, 0, none⟩ = some (.int .i64 H) ∧ w'.cell? ⟨G, 1, none⟩ = some (.slice (some ⟨gx, 0, none⟩) LX cu) ∧ w'.cell? ⟨F, 0, none⟩ = some (.slice ay y0s.length cy) ∧ w'.cell? ⟨F, 1, none⟩ = some (.int .i64 tm2)) (by kernel_rfl) ?_ (fun hHeld => ?_)
        · exact ⟨s5, s51, s6, s61⟩
        (refine wpAnyH_take (i := 0) (v := ?tv7) rfl (by kernel_rfl) (by kernel_rfl) (by kernel_rfl) (fun _ _ _ h => h) (Or.inl ⟨by rfl, ?thy7⟩) (by assumption) ?trest7; case thy7 => (intro w hSw; (try dsimp only at hSw); go_simp; (try with_reducible rfl)); (try simp only [Act.put, List.getElem_toArray, List.getElem_cons_zero, List.getElem_cons_succ, List.setIfInBounds_toArray, List.set_cons_zero, List.set_cons_succ])); (refine wpAnyH_take (i := 1) (v := ?tv8) rfl (by kernel_rfl) (by kernel_rfl) (by kernel_rfl) (fun _ _ _ h => h) (Or.inl ⟨by rfl, ?thy8⟩) (by assumption) ?trest8; case thy8 => (intro w hSw; (try dsimp only at hSw); go_simp; (try with_reducible rfl)); (try simp only [Act.put, List.getElem_toArray, List.getElem_cons_zero, List.getElem_cons_succ, List.setIfInBounds_toArray, List.set_cons_zero, List.set_cons_succ]))
        refine wpAnyH_ready (rs := [2]) (by kernel_rfl) (by simp) ?_; refine AllReadyH.cons (i := 2) rfl (fun K hK => ?_) AllReadyH.nil
        go_simp
        refine hK.out _ _ ⟨T51.c0, T51.c1, T61.c0, T61.c1⟩ (fun hHeld => ?_)
        clear hK K
        (try simp only [Act.put, List.setIfInBounds_toArray, List.set_cons_zero, List.set_cons_succ])
        refine wpAnyH_ready (rs := [3]) (by kernel_rfl) (by simp) ?_; refine AllReadyH.cons (i := 3) rfl (fun K hK => ?_) AllReadyH.nil
        go_simp
        refine hK.out _ _ ⟨T52.c0, T52.c1, T62.c0, T62.c1⟩ (fun hHeld => ?_)
        clear hK K
        (try simp only [Act.put, List.setIfInBounds_toArray, List.set_cons_zero, List.set_cons_succ])
        refine wpAnyH_done (by kernel_rfl) ?_ _
        refine NoPanic.normal ?_
        go_wp2
        have X0 := RZ2.c0
        have X1 := RZ2.c1
        have Y0 := PZ.c0
        have Y1 := PZ.c1
        refine bodyPost_ret (v := .tuple #[.agg #[.int .i64 H, .slice (some ⟨gx, 0, none⟩) LX cu], .agg #[(.slice ay y0s.length cy), .int .i64 tm2]]) (by simp [results, Try.results12, go_sem, X0, X1, Y0, Y1]) rfl ⟨_, X, H, _, _, _, rfl, hDr, hzr, BZ.dr⟩
  · have hL1 : ¬ (0 : Int) < (LX : Int) := by omega
    go_wp2_with fail
    replace RB := RB.below hb7
    replace PB := PB.below hb7
    replace T5 := T5.below hb7
    replace hD := hD.below hb7
    have Sq := S6.below hb7
    have Bq := B6.tr hb7
    have hzq := hz6.below hb7
    obtain ⟨kq, hkq⟩ : ∃ kq, k6 = kq := ⟨_, rfl⟩
    rw [hkq] at Sq hk6
    obtain ⟨F, hF⟩ : ∃ F, w6.heap.size = F := ⟨_, rfl⟩
    rw [hF] at T6 hs6 hl6 hzo ⊢
    generalize (w6.alloc (Obj.cells #[.slice az zs.length cz, .int .i64 tm] 34)) = wq at *
    clear t51 S6 B6 hb7 hz6 hF hkq
    refine (c_spec_l00Src_one w0 g kq bs 16 _ Sq (by omega) (by omega)).mono ?_; rintro e wa ⟨ba, ka, rfl, hka, Sa, Ua⟩
    have hsa := Ua.size
    replace RB := RB.upd Ua (by omega)
    replace PB := PB.upd Ua (by omega)
    replace T5 := T5.upd Ua (by omega)
    replace T6 := T6.upd Ua (by omega)
    replace hD := hD.upd Ua (Or.inr (by omega))
    replace hzq := rdI_updV hzq Ua (fun k e => by have := hzo k e; omega)
    have Ba := Bq.trans (Ua.below (show w.heap.size ≤ g by omega) Bq.size)
    clear Sq Ua Bq
    cases ba
    · have r0 := RB.c0
      have r1 := RB.c1
      have rf0 := RB.f0
      have rf1 := RB.f1
      have p0 := PB.c0
      have p1 := PB.c1
      have pf0 := PB.f0
      have pf1 := PB.f1
      have s5 := T5.c0
      have s51 := T5.c1
      have s6 := T6.c0
      have s61 := T6.c1
      obtain ⟨RZ, gr⟩ := RB.set (.int .i64 H) (.slice au LX cu)
      have PB2 := PB.grown gr (by simp only [ne_eq, Option.some.injEq]; omega)
      have p20 := PB2.c0
      have p21 := PB2.c1
      have pf20 := PB2.f0
      have pf21 := PB2.f1
      obtain ⟨PZ, gp⟩ := PB2.set (.slice az zs.length cz) (.int .i64 tm)
      have RZ2 := RZ.grown gp (by simp only [ne_eq, Option.some.injEq]; omega)
      have hDr := ((hD.upd (Upd.of_grown (lo := w.heap.size) (hi := w.heap.size + 1) gr (fun k hk => by simp only [Option.some.injEq] at hk; omega)) (Or.inr (by omega))).upd (Upd.of_grown (lo := w.heap.size + 1) (hi := w.heap.size + 2) gp (fun k hk => by simp only [Option.some.injEq] at hk; omega)) (Or.inr (by omega))).rd
      have hzr := rdI_updV (rdI_updV hzq (Upd.of_grown (lo := w.heap.size) (hi := w.heap.size + 1) gr (fun k hk => by simp only [Option.some.injEq] at hk; omega)) (fun k e => by have := hzo k e; omega)) (Upd.of_grown (lo := w.heap.size + 1) (hi := w.heap.size + 2) gp (fun k hk => by simp only [Option.some.injEq] at hk; omega)) (fun k e => by have := hzo k e; omega)
      have BZ := (Ba.grown gr Ba.size (fun n e => by simp only [Option.some.injEq] at e; omega)).grown gp (Ba.grown gr Ba.size (fun n e => by simp only [Option.some.injEq] at e; omega)).size (fun n e => by simp only [Option.some.injEq] at e; omega)
      have T51 := T5.grown gr (by simp only [ne_eq, Option.some.injEq]; omega)
      have T61 := T6.grown gr (by simp only [ne_eq, Option.some.injEq]; omega)
      have T52 := T51.grown gp (by simp only [ne_eq, Option.some.injEq]; omega)
      have T62 := T61.grown gp (by simp only [ne_eq, Option.some.injEq]; omega)
      go_wp2_with fail
      refine wp_region_noPanic ?_
      refine wp_region_held_drew (S := fun w' => w'.cell? ⟨G, 0, none⟩ = some (.int .i64 H) ∧ w'.cell? ⟨G, 1, none⟩ = some (.slice au LX cu) ∧ w'.cell? ⟨F, 0, none⟩ = some (.slice az zs.length cz) ∧ w'.cell? ⟨F, 1, none⟩ = some (.int .i64 tm)) (by kernel_rfl) ?_ (fun hHeld => ?_)
      · exact ⟨s5, s51, s6, s61⟩
      (refine wpAnyH_take (i := 0) (v := ?tv9) rfl (by kernel_rfl) (by kernel_rfl) (by kernel_rfl) (fun _ _ _ h => h) (Or.inl ⟨by rfl, ?thy9⟩) (by assumption) ?trest9; case thy9 => (intro w hSw; (try dsimp only at hSw); go_simp; (try with_reducible rfl)); (try simp only [Act.put, List.getElem_toArray, List.getElem_cons_zero, List.getElem_cons_succ, List.setIfInBounds_toArray, List.set_cons_zero, List.set_cons_succ])); (refine wpAnyH_take (i := 1) (v := ?tv10) rfl (by kernel_rfl) (by kernel_rfl) (by kernel_rfl) (fun _ _ _ h => h) (Or.inl ⟨by rfl, ?thy10⟩) (by assumption) ?trest10; case thy10 => (intro w hSw; (try dsimp only at hSw); go_simp; (try with_reducible rfl)); (try simp only [Act.put, List.getElem_toArray, List.getElem_cons_zero, List.getElem_cons_succ, List.setIfInBounds_toArray, List.set_cons_zero, List.set_cons_succ]))
      refine wpAnyH_ready (rs := [2]) (by kernel_rfl) (by simp) ?_; refine AllReadyH.cons (i := 2) rfl (fun K hK => ?_) AllReadyH.nil
      go_simp
      refine hK.out _ _ ⟨T51.c0, T51.c1, T61.c0, T61.c1⟩ (fun hHeld => ?_)
      clear hK K
      (try simp only [Act.put, List.setIfInBounds_toArray, List.set_cons_zero, List.set_cons_succ])
      refine wpAnyH_ready (rs := [3]) (by kernel_rfl) (by simp) ?_; refine AllReadyH.cons (i := 3) rfl (fun K hK => ?_) AllReadyH.nil
      go_simp
      refine hK.out _ _ ⟨T52.c0, T52.c1, T62.c0, T62.c1⟩ (fun hHeld => ?_)
      clear hK K
      (try simp only [Act.put, List.setIfInBounds_toArray, List.set_cons_zero, List.set_cons_succ])
      refine wpAnyH_done (by kernel_rfl) ?_ _
      refine NoPanic.normal ?_
      go_wp2
      have X0 := RZ2.c0
      have X1 := RZ2.c1
      have Y0 := PZ.c0
      have Y1 := PZ.c1
      refine bodyPost_ret (v := .tuple #[.agg #[.int .i64 H, .slice au LX cu], .agg #[(.slice az zs.length cz), .int .i64 tm]]) (by simp [results, Try.results12, go_sem, X0, X1, Y0, Y1]) rfl ⟨_, X, H, _, _, _, rfl, hDr, hzr, BZ.dr⟩
    · have hb8 : Below wa.heap.size wa (wa.alloc (Obj.cells #[.int .i64 0, .int .i64 21] 2)) := (Below.refl _ _).al _
      have rdz := rd2 wa 0 21
      have Sb := Sa.below hb8
      go_wp2_with fail
      refine (c_spec_l00Src_among w0 g ka bs [0, 21] _ _ Sb rdz (by omega) (by simp) (fun n e => by simp only [Value.ownBlock, Option.some.injEq] at e; have := Sa.lt; omega)).mono ?_
      rintro e wb ⟨tm2, kb, rfl, -, hkb, Sc, Ub⟩
      have hsb := Ub.size
      have hs8 := hb8.size
      replace RB := (RB.below hb8).upd Ub (by omega)
      replace PB := (PB.below hb8).upd Ub (by omega)
      replace T5 := (T5.below hb8).upd Ub (by omega)
      replace T6 := (T6.below hb8).upd Ub (by omega)
      replace hD := (hD.below hb8).upd Ub (Or.inr (by omega))
      replace hzq := rdI_updV (hzq.below hb8) Ub (fun k e => by have := hzo k e; omega)
      have Bb := (Ba.tr hb8).trans (Ub.below (show w.heap.size ≤ g by omega) (Ba.tr hb8).size)
      have q0 := T6.c0
      have q1 := T6.c1
      have qf1 := T6.f1
      obtain ⟨T6', g6⟩ := T6.set1 (.int .i64 tm2)
      replace RB := RB.grown g6 (by simp only [ne_eq, Option.some.injEq]; omega)
      replace PB := PB.grown g6 (by simp only [ne_eq, Option.some.injEq]; omega)
      replace T5 := T5.grown g6 (by simp only [ne_eq, Option.some.injEq]; omega)
      replace hD := hD.upd (Upd.of_grown (lo := F) (hi := F + 1) g6 (fun k hk => by simp only [Option.some.injEq] at hk; omega)) (Or.inl (by omega))
      replace hzq := rdI_updV hzq (Upd.of_grown (lo := F) (hi := F + 1) g6 (fun k hk => by simp only [Option.some.injEq] at hk; omega)) (fun k e => by have := hzo k e; omega)
      replace Ba := Bb.grown g6 Bb.size (fun n e => by simp only [Option.some.injEq] at e; omega)
      clear Sa Sb Sc Ub hb8 rdz Bb T6
      have hgs := g6.size
      go_wp2_with fail
      clear q0 q1 qf1 g6
      generalize (wb.setCell ⟨F, 1, none⟩ (.int .i64 tm2)) = wc at *
      have r0 := RB.c0
      have r1 := RB.c1
      have rf0 := RB.f0
      have rf1 := RB.f1
      have p0 := PB.c0
      have p1 := PB.c1
      have pf0 := PB.f0
      have pf1 := PB.f1
      have s5 := T5.c0
      have s51 := T5.c1
      have s6 := T6'.c0
      have s61 := T6'.c1
      obtain ⟨RZ, gr⟩ := RB.set (.int .i64 H) (.slice au LX cu)
      have PB2 := PB.grown gr (by simp only [ne_eq, Option.some.injEq]; omega)
      have p20 := PB2.c0
      have p21 := PB2.c1
      have pf20 := PB2.f0
      have pf21 := PB2.f1
      obtain ⟨PZ, gp⟩ := PB2.set (.slice az zs.length cz) (.int .i64 tm2)
      have RZ2 := RZ.grown gp (by simp only [ne_eq, Option.some.injEq]; omega)
      have hDr := ((hD.upd (Upd.of_grown (lo := w.heap.size) (hi := w.heap.size + 1) gr (fun k hk => by simp only [Option.some.injEq] at hk; omega)) (Or.inr (by omega))).upd (Upd.of_grown (lo := w.heap.size + 1) (hi := w.heap.size + 2) gp (fun k hk => by simp only [Option.some.injEq] at hk; omega)) (Or.inr (by omega))).rd
      have hzr := rdI_updV (rdI_updV hzq (Upd.of_grown (lo := w.heap.size) (hi := w.heap.size + 1) gr (fun k hk => by simp only [Option.some.injEq] at hk; omega)) (fun k e => by have := hzo k e; omega)) (Upd.of_grown (lo := w.heap.size + 1) (hi := w.heap.size + 2) gp (fun k hk => by simp only [Option.some.injEq] at hk; omega)) (fun k e => by have := hzo k e; omega)
      have BZ := (Ba.grown gr Ba.size (fun n e => by simp only [Option.some.injEq] at e; omega)).grown gp (Ba.grown gr Ba.size (fun n e => by simp only [Option.some.injEq] at e; omega)).size (fun n e => by simp only [Option.some.injEq] at e; omega)
      have T51 := T5.grown gr (by simp only [ne_eq, Option.some.injEq]; omega)
      have T61 := T6'.grown gr (by simp only [ne_eq, Option.some.injEq]; omega)
      have T52 := T51.grown gp (by simp only [ne_eq, Option.some.injEq]; omega)
      have T62 := T61.grown gp (by simp only [ne_eq, Option.some.injEq]; omega)
      refine wp_region_noPanic ?_
      refine wp_region_held_drew (S := fun w' => w'.cell? ⟨G, 0, none⟩ = some (.int .i64 H) ∧ w'.cell? ⟨G, 1, none⟩ = some (.slice au LX cu) ∧ w'.cell? ⟨F, 0, none⟩ = some (.slice az zs.length cz) ∧ w'.cell? ⟨F, 1, none⟩ = some (.int .i64 tm2)) (by kernel_rfl) ?_ (fun hHeld => ?_)
      · exact ⟨s5, s51, s6, s61⟩
      (refine wpAnyH_take (i := 0) (v := ?tv11) rfl (by kernel_rfl) (by kernel_rfl) (by kernel_rfl) (fun _ _ _ h => h) (Or.inl ⟨by rfl, ?thy11⟩) (by assumption) ?trest11; case thy11 => (intro w hSw; (try dsimp only at hSw); go_simp; (try with_reducible rfl)); (try simp only [Act.put, List.getElem_toArray, List.getElem_cons_zero, List.getElem_cons_succ, List.setIfInBounds_toArray, List.set_cons_zero, List.set_cons_succ])); (refine wpAnyH_take (i := 1) (v := ?tv12) rfl (by kernel_rfl) (by kernel_rfl) (by kernel_rfl) (fun _ _ _ h => h) (Or.inl ⟨by rfl, ?thy12⟩) (by assumption) ?trest12; case thy12 => (intro w hSw; (try dsimp only at hSw); go_simp; (try with_reducible rfl)); (try simp only [Act.put, List.getElem_toArray, List.getElem_cons_zero, List.getElem_cons_succ, List.setIfInBounds_toArray, List.set_cons_zero, List.set_cons_succ]))
      refine wpAnyH_ready (rs := [2]) (by kernel_rfl) (by simp) ?_; refine AllReadyH.cons (i := 2) rfl (fun K hK => ?_) AllReadyH.nil
      go_simp
      refine hK.out _ _ ⟨T51.c0, T51.c1, T61.c0, T61.c1⟩ (fun hHeld => ?_)
      clear hK K
      (try simp only [Act.put, List.setIfInBounds_toArray, List.set_cons_zero, List.set_cons_succ])
      refine wpAnyH_ready (rs := [3]) (by kernel_rfl) (by simp) ?_; refine AllReadyH.cons (i := 3) rfl (fun K hK => ?_) AllReadyH.nil
      go_simp
      refine hK.out _ _ ⟨T52.c0, T52.c1, T62.c0, T62.c1⟩ (fun hHeld => ?_)
      clear hK K
      (try simp only [Act.put, List.setIfInBounds_toArray, List.set_cons_zero, List.set_cons_succ])
      refine wpAnyH_done (by kernel_rfl) ?_ _
      refine NoPanic.normal ?_
      go_wp2
      have X0 := RZ2.c0
      have X1 := RZ2.c1
      have Y0 := PZ.c0
      have Y1 := PZ.c1
      refine bodyPost_ret (v := .tuple #[.agg #[.int .i64 H, .slice au LX cu], .agg #[(.slice az zs.length cz), .int .i64 tm2]]) (by simp [results, Try.results12, go_sem, X0, X1, Y0, Y1]) rfl ⟨_, X, H, _, _, _, rfl, hDr, hzr, BZ.dr⟩
end Go.Proofs.Ytgcmnpimkfmccaa
