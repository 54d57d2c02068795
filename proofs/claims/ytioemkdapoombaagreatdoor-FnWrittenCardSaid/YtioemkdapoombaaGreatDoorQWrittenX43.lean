/- The law WrittenX: what it rests on, part 43 of 46. -/
import Derived.Test.YtioemkdapoombaaGreatDoorQWrittenX41
import Derived.Test.YtioemkdapoombaaGreatDoorQWrittenX42
namespace Go.Proofs.YtioemkdapoombaaGreatDoor
open Go.ChangeShapes Go.WideShapes Go.ChangeAt Go.RowKit
set_option linter.unusedSimpArgs false
set_option linter.unusedVariables false
set_option maxHeartbeats 16000000 in
set_option maxRecDepth 100000 in
theorem c_spec_DrawLinesOf (bs : List Int) (v : Value) (w : World) (h : RdB w v bs) :
    Calls Tryz.prog 6 #[v] w fun e w' => ∃ (u : Value) (xs : List Int) (H m : Int), e = .returned (.tuple #[.agg #[.int .i64 H, .int .i64 m], u]) ∧ OwnI 2 w.heap.size w' u xs ∧ xs.length ≤ 2000 ∧ Below w.heap.size w w' := by
  have RB := VBox.new w 25 (.int .i64 0) (.int .i64 0)
  have B0 : Below w.heap.size w (w.alloc (Obj.cells #[.int .i64 0, .int .i64 0] 25)) := (Below.refl _ _).al _
  have hs0 := RB.lt
  go_enter Tryz.func6, Tryz.ntmps6
  go_wp2_with fail
  generalize (w.alloc (Obj.cells #[.int .i64 0, .int .i64 0] 25)) = w0 at *
  refine (c_spec_l00From bs v _ (h.below B0)).mono ?_; rintro e w1 ⟨rfl, S1, hb1⟩
  have hs1 := hb1.size
  have hg1 := S1.lt
  obtain ⟨g, hg⟩ : ∃ g, w0.heap.size = g := ⟨_, rfl⟩
  rw [hg] at S1 hg1 hs0 ⊢
  have hgw : w0.heap.size ≤ g := by omega
  replace RB := RB.below hb1
  have B1 := B0.tr hb1
  clear hb1 B0 hs1 hg
  go_wp2_with fail
  refine (c_spec_l08Bent w0 g 0 bs _ S1 (by omega)).mono ?_; rintro e w2 ⟨H, m, k2, rfl, hk2, S2, U2⟩
  have hs2 := U2.size
  replace RB := RB.upd U2 (by omega)
  have B2 := B1.trans (U2.below (show w.heap.size ≤ g by omega) (by omega))
  clear S1 U2 B1
  obtain ⟨w3, hw3⟩ : ∃ w3, w3 = (w2.alloc (Obj.cells #[.int .i64 H, .int .i64 m] 25)).alloc (Obj.cells #[] 2) := ⟨_, rfl⟩
  have hb2a : Below w2.heap.size w2 (w2.alloc (Obj.cells #[.int .i64 H, .int .i64 m] 25)) := (Below.refl _ _).al _
  have hb2b : Below (w2.alloc (Obj.cells #[.int .i64 H, .int .i64 m] 25)).heap.size (w2.alloc (Obj.cells #[.int .i64 H, .int .i64 m] 25)) w3 := by rw [hw3]; exact (Below.refl _ _).al _
  have T5 := (VBox.new w2 25 (.int .i64 H) (.int .i64 m)).below hb2b
  have hO : OwnI 2 (g + 1) w3 (.slice (some ⟨w2.heap.size + 1, 0, none⟩) 0 0) [] := by rw [hw3]; exact OwnI.made rfl (by rw [World.size_alloc]) (by rw [World.size_alloc]; omega)
  have hs3 : w3.heap.size = w2.heap.size + 2 := by rw [hw3, World.size_alloc, World.size_alloc]
  have c0 := T5.c0
  have c1 := T5.c1
  rw [hw3] at c0 c1
  go_wp2_with fail
  rw [← hw3] at c0 c1 ⊢
  clear hw3
  have hb2 := hb2a.tr hb2b
  replace RB := RB.below hb2
  have S3 := S2.below hb2
  have B3 := B2.tr hb2
  obtain ⟨G, hG⟩ : ∃ G, w2.heap.size = G := ⟨_, rfl⟩
  rw [hG] at T5 hO hs2 c0 c1 hs3 ⊢
  have hs3' : G + 2 ≤ w3.heap.size ∧ w3.heap.size ≤ G + 2 := by omega
  clear S2 B2 hb2 hb2a hb2b hG hs3
  refine (c_spec_l08Ok H m _).mono ?_; rintro e w4 ⟨rfl, hb4⟩
  have hs4 := hb4.size
  replace RB := RB.below hb4
  replace T5 := T5.below hb4
  replace hO := hO.below hb4
  have S4 := S3.below hb4
  have B4 := B3.tr hb4
  clear S3 B3 hb4 c0 c1
  cases hv : validB H m
  · have t0 := T5.c0
    have t1 := T5.c1
    have r0 := RB.c0
    have r1 := RB.c1
    have rf0 := RB.f0
    have rf1 := RB.f1
    obtain ⟨RZ, gz⟩ := RB.set (.int .i64 H) (.int .i64 m)
    have hOz : OwnI 2 (g + 1) _ (.slice (some ⟨G + 1, 0, none⟩) 0 0) [] := OwnI.far hO gz (fun k hk e => by simp only [Option.some.injEq] at e; have := OwnI.gt hO k hk; omega)
    have Bz := B4.grown gz B4.size (fun n e => by simp only [Option.some.injEq] at e; omega)
    clear hv
    go_wp2
    have X0 := RZ.c0
    have X1 := RZ.c1
    exact bodyPost_ret (v := .tuple #[.agg #[.int .i64 H, .int .i64 m], .slice (some ⟨G + 1, 0, none⟩) 0 0]) (by simp [results, Tryz.results6, go_sem, X0, X1]) rfl ⟨_, [], H, m, rfl, hOz.base (by omega), by simp, Bz⟩
  obtain ⟨hHb, hmv⟩ := validB_iff.1 hv
  clear hv
  have hp1024 : (2 : Int) ^ H.toNat ≤ 1024 := by
    have : H.toNat ≤ 10 := by omega
    have h2 : (2 : Nat) ^ H.toNat ≤ 2 ^ 10 := Nat.pow_le_pow_right (by decide) this
    have h3 : ((2 ^ H.toNat : Nat) : Int) ≤ ((2 ^ 10 : Nat) : Int) := by exact_mod_cast h2
    simpa using h3
  have hm0 : 0 ≤ m ∧ m < 2 ^ H.toNat := by omega
  have t50 := T5.c0
  have t51 := T5.c1
  have TN := VBox.new w4 25 (.int .i64 H) (.int .i64 m)
  have hb5 : Below w4.heap.size w4 (w4.alloc (Obj.cells #[.int .i64 H, .int .i64 m] 25)) := (Below.refl _ _).al _
  have hNl := TN.lt
  go_wp2_with fail
  replace RB := RB.below hb5
  replace T5 := T5.below hb5
  replace hO := hO.below hb5
  have S5 := S4.below hb5
  have B5 := B4.tr hb5
  obtain ⟨GN, hGN⟩ : ∃ G, w4.heap.size = G := ⟨_, rfl⟩
  rw [hGN] at TN hNl hs4 ⊢
  have hne : ∀ n, Value.ownBlock (.slice (some ⟨G + 1, 0, none⟩) 0 0) = some n → n ≠ GN ∧ n ≠ G := fun n e => by simp only [Value.ownBlock, Option.some.injEq] at e; omega
  generalize (w4.alloc (Obj.cells #[.int .i64 H, .int .i64 m] 25)) = w5 at *
  clear S4 B4 hb5 hGN t50 t51
  refine (c_spec_l00Src_pick w0 g k2 bs 20 _ S5 (by omega) (by omega)).mono ?_; rintro e w6 ⟨x6, k6, rfl, hx0, hx1, -, hk6, S6, U6⟩
  have hx := hx1 (by omega)
  have hs6 := U6.size
  replace TN := TN.upd U6 (by omega)
  replace T5 := T5.upd U6 (by omega)
  replace RB := RB.upd U6 (by omega)
  replace hO := (OwnIR.upd hO.ir U6 (Or.inr (by omega))).1
  have B6 := B5.trans (U6.below (show w.heap.size ≤ g by omega) (by omega))
  clear S5 B5 U6 hx1
  go_wp2_with fail
  refine (c_spec_l00Src_one w0 g k6 bs 16 _ S6 (by omega) (by omega)).mono ?_; rintro e w7 ⟨b7, k7, rfl, hk7, S7, U7⟩
  have hs7 := U7.size
  replace TN := TN.upd U7 (by omega)
  replace T5 := T5.upd U7 (by omega)
  replace RB := RB.upd U7 (by omega)
  replace hO := (OwnIR.upd hO.ir U7 (Or.inr (by omega))).1
  have B7 := B6.trans (U7.below (show w.heap.size ≤ g by omega) (by omega))
  clear S6 B6 U7
  cases b7
  · obtain ⟨N, rfl⟩ : ∃ N : Nat, x6 = (N : Int) := ⟨x6.toNat, by omega⟩
    have hN : N ≤ 697 := by omega
    have Sq := S7
    have Bq := B7
    obtain ⟨kq, hkq⟩ : ∃ kq, k7 = kq := ⟨_, rfl⟩
    have hkqb : kq ≤ 100 := by omega
    rw [hkq] at Sq
    clear S7 B7 hkq
    go_wp2_with fail
    go_loopw [6, 9] (fun s i wr => ∃ (j q : Nat) (mm : Int) (v : Value) (xs : List Int), j ≤ N ∧ i = .int .i64 j ∧ s = v ∧ xs.length + j ≤ N ∧ q + 30 * j ≤ kq + 30 * N ∧ VBox wr GN (.int .i64 H) (.int .i64 mm) ∧ (0 ≤ mm ∧ mm < 2 ^ H.toNat) ∧ VBox wr G (.int .i64 H) (.int .i64 m) ∧ VBox wr w.heap.size (.int .i64 0) (.int .i64 0) ∧ OwnI 2 (g + 1) wr v xs ∧ (∃ a n c, v = .slice a n c) ∧ (∀ n, v.ownBlock = some n → n ≠ GN ∧ n ≠ G) ∧ Src w0 g bs q wr ∧ Below w.heap.size w wr) (fun _ i _ => (intOf i).toNat)
    case atStart => exact ⟨N, kq, m, _, [], by omega, by go_num, rfl, by simp, by omega, TN, hm0, T5, RB, hO, ⟨_, _, _, rfl⟩, hne, Sq, Bq⟩
    case round =>
      clear TN T5 RB hO hne Sq Bq
      obtain ⟨j, qk, mm, v, xs, hj, rfl, rfl, hxl, hq, TN, hm2, T5, RB, hO, ⟨av, LX, cv, hvv⟩, hne, Sa, Ba⟩ := hrel
      subst hvv
      obtain ⟨wo, rfl⟩ : ∃ wo : World, wo = wr := ⟨_, rfl⟩
      have hLX : LX = xs.length := by obtain ⟨_, _, he, -⟩ := hO.rd; cases he; rfl
      have hLXb : LX ≤ N := by omega
      have hmb : 0 ≤ mm ∧ mm < 1024 := by omega
      have hgo := Sa.lt
      have hno := TN.lt
      have hwo := Ba.size
      have HLE := Lib.hid hLX
      clear hLX
      by_cases hj0 : 0 < j
      · have hj1 : (0 : Int) < (j : Int) := by omega
        have n0 := TN.c0
        have n1 := TN.c1
        go_wp2_with fail
        refine (c_spec_l08Throws H mm _ (by omega) hmb).mono ?_; rintro e wa ⟨vl, rfl, hol, hba⟩
        obtain ⟨al, cl, rfl, hll, hlc⟩ := hol.rd
        have hsa := hba.size
        replace TN := TN.below hba
        replace T5 := T5.below hba
        replace RB := RB.below hba
        replace hO := hO.below hba
        have Sb := Sa.below hba
        have Bb := Ba.tr hba
        have hTl : (throwsL H mm).length ≤ 11 := by have := throwsTo_len H mm (H + 1).toNat; unfold throwsL; omega
        have HLC := Lib.hid hlc
        have hblo := fun n e => OwnI.gt hol n e
        obtain ⟨TL, hTL⟩ : ∃ TL, (throwsL H mm).length = TL := ⟨_, rfl⟩
        have HTL := Lib.hid hTL
        rw [hTL] at hTl ⊢
        clear n0 n1 hba Sa Ba hol hlc hll hTL
        by_cases hl0 : TL = 0
        · have tl0 : ((TL : Int) == 0) = true := by rw [beq_iff_eq]; omega
          have t0 := T5.c0
          have t1 := T5.c1
          have r0 := RB.c0
          have r1 := RB.c1
          have rf0 := RB.f0
          have rf1 := RB.f1
          obtain ⟨RZ, gz⟩ := RB.set (.int .i64 H) (.int .i64 m)
          have hOz : OwnI 2 (g + 1) _ (.slice av LX cv) xs := OwnI.far hO gz (fun k hk e => by simp only [Option.some.injEq] at e; have := OwnI.gt hO k hk; omega)
          have Bz := Bb.grown gz Bb.size (fun n e => by simp only [Option.some.injEq] at e; omega)
          go_wp2
          have X0 := RZ.c0
          have X1 := RZ.c1
          refine bodyPost_ret (v := .tuple #[.agg #[.int .i64 H, .int .i64 m], .slice av LX cv]) (by simp [results, Tryz.results6, go_sem, X0, X1]) rfl ?_
          first
            | exact ⟨_, xs, H, m, rfl, hOz.base (by omega), by omega, Bz⟩
            | exact ⟨_, ⟨H, m, rfl⟩, xs, hOz.base (by omega), by omega, Bz⟩
        · have tl0 : ((TL : Int) == 0) = false := beq_eq_false_iff_ne.2 (by omega)
          go_wp2_with fail
          refine (c_spec_l00Src_pick w0 g qk bs TL _ Sb (by omega) (by omega)).mono ?_; rintro e wc ⟨x, kc, rfl, hx0, hx1, -, hkc, Sc, Uc⟩
          have hxl2 := hx1 (by omega)
          obtain ⟨I, rfl⟩ : ∃ I : Nat, x = (I : Int) := ⟨x.toNat, by omega⟩
          have hI : I < (throwsL H mm).length := by rw [HTL.out]; omega
          obtain ⟨bl, ol, rfl, hcell⟩ := HLC.out I hI
          obtain ⟨tv, htv⟩ : ∃ tv, (throwsL H mm).getD I 0 = tv := ⟨_, rfl⟩
          rw [htv] at hcell
          have hblw : bl < wa.heap.size := World.block_lt_of_cell? _ _ hcell
          have hcell2 : wc.cell? ⟨bl, ol + I, none⟩ = some (.int .i64 tv) := (Uc.cell bl (ol + I) (by have := hblo bl rfl; omega) hblw).trans hcell
          have hsc := Uc.size
          replace TN := TN.upd Uc (by omega)
          replace T5 := T5.upd Uc (by omega)
          replace RB := RB.upd Uc (by omega)
          replace hO := (OwnIR.upd hO.ir Uc (Or.inr (by omega))).1
          have Bc := Bb.trans (Uc.below (show w.heap.size ≤ g by omega) (by omega))
          have hin0 : (0 : Int) ≤ (I : Int) := Int.natCast_nonneg _
          have hin1 : (I : Int) < (TL : Int) := hxl2
          clear Sb Bb Uc hcell HLC htv hx1 hblo
          go_wp2_with fail
          refine (c_spec_l00Src_one w0 g kc bs 200 _ Sc (by omega) (by omega)).mono ?_; rintro e wd ⟨bb, kd, rfl, hkd, Sd, Ud⟩
          have hsd := Ud.size
          replace TN := TN.upd Ud (by omega)
          replace T5 := T5.upd Ud (by omega)
          replace RB := RB.upd Ud (by omega)
          replace hO := (OwnIR.upd hO.ir Ud (Or.inr (by omega))).1
          have Bd := Bc.trans (Ud.below (show w.heap.size ≤ g by omega) (by omega))
          clear Sc Bc Ud hcell2
          cases bb
          · skip
            have hlen2 : xs.length < 1000000000 := by omega
            go_wp2_with (at_builtin; refine push_int_at rfl _ _ _ _ rfl Tryz.underlying26 infoI (g + 1) _ xs tv wd rfl rfl (by exact hO) hlen2 (by omega) ?_; intro v' w' ho' hg' hat' hs'; refine stop_of ?_)
            unfold Stopped
            have hlv : ∀ n, Value.ownBlock (.slice av LX cv) = some n → g + 1 ≤ n ∧ n ≠ GN ∧ n ≠ G := fun n e => ⟨OwnI.gt hO n e, hne n e⟩
            replace TN := TN.grown hg' (fun e => by have := hlv GN e; omega)
            replace T5 := T5.grown hg' (fun e => by have := hlv G e; omega)
            replace RB := RB.grown hg' (fun e => by have := hlv _ e; omega)
            have Se := Sd.grown hg' (fun n e => by have := hlv n e; omega)
            have Be := Bd.grown hg' Bd.size (fun n e => by have := hlv n e; omega)
            have hne' : ∀ n, Value.ownBlock v' = some n → n ≠ GN ∧ n ≠ G := fun n e => by
              rcases hat' with h | h
              · rw [h] at e; have := hlv n e; omega
              · rw [h] at e; simp only [Option.some.injEq] at e; omega
            obtain ⟨a9, c9, hv9, -⟩ := ho'.rd
            obtain ⟨L9, hL9⟩ : ∃ L9, (xs ++ [tv]).length = L9 := ⟨_, rfl⟩
            have hL9b : L9 ≤ LX + 1 := by rw [← hL9, HLE.out]; simp
            rw [hL9] at hv9
            subst hv9
            clear hO hg' hat' Sd Bd
            have n0 := TN.c0
            have n1 := TN.c1
            go_wp2_with fail
            refine (c_spec_l08Can H mm tv _ (by omega) hmb).mono ?_; rintro e we ⟨rfl, hbe⟩
            replace TN := TN.below hbe
            replace T5 := T5.below hbe
            replace RB := RB.below hbe
            have Sf := Se.below hbe
            have Bf := Be.tr hbe
            have hOf := ho'.below hbe
            have hse := hbe.size
            clear Se Be hbe ho' n0 n1
            cases hcan : canB H mm tv
            · go_wp2
              go_roundw
              case rel => exact ⟨j - 1, kd, mm, _, xs ++ [tv], by omega, by rw [show ((j - 1 : Nat) : Int) = (j : Int) - 1 by omega], rfl, by simp; omega, by omega, TN, hm2, T5, RB, hOf, ⟨_, _, _, rfl⟩, hne', Sf, Bf⟩
              case measure => (simp [intOf] <;> omega)
            · have htl := can_le (by omega) hcan
              have n0 := TN.c0
              have n1 := TN.c1
              have nf0 := TN.f0
              have nf1 := TN.f1
              have hnb := next_bd hHb hm2 htl.2
              go_wp2_with fail
              refine (c_spec_l08Next H mm tv _ hmb (by omega)).mono ?_; rintro e wf ⟨rfl, hbf⟩
              replace TN := TN.below hbf
              replace T5 := T5.below hbf
              replace RB := RB.below hbf
              have Sg := Sf.below hbf
              have Bg := Bf.tr hbf
              have hOg := hOf.below hbf
              have hsf := hbf.size
              clear Sf Bf hbf hOf n0 n1 nf0 nf1
              have n0 := TN.c0
              have n1 := TN.c1
              have nf0 := TN.f0
              have nf1 := TN.f1
              obtain ⟨TZ, gz⟩ := TN.set (.int .i64 H) (.int .i64 (nextM mm tv))
              have T5z := T5.grown gz (by simp only [ne_eq, Option.some.injEq]; omega)
              have RZ := RB.grown gz (by simp only [ne_eq, Option.some.injEq]; omega)
              have Sz := Sg.grown gz (fun n e => by simp only [Option.some.injEq] at e; omega)
              have Bz := Bg.grown gz Bg.size (fun n e => by simp only [Option.some.injEq] at e; omega)
              have hOz : OwnI 2 (g + 1) ((wf.setCell ⟨GN, 0, none⟩ (.int .i64 H)).setCell ⟨GN, 1, none⟩ (.int .i64 (nextM mm tv))) (.slice a9 L9 c9) (xs ++ [tv]) := OwnI.far hOg gz (fun k hk e => by simp only [Option.some.injEq] at e; exact (hne' k hk).1 e.symm)
              go_wp2
              generalize ((wf.setCell ⟨GN, 0, none⟩ (.int .i64 H)).setCell ⟨GN, 1, none⟩ (.int .i64 (nextM mm tv))) = wz at *
              go_roundw
              case rel => exact ⟨j - 1, kd, nextM mm tv, _, xs ++ [tv], by omega, by rw [show ((j - 1 : Nat) : Int) = (j : Int) - 1 by omega], rfl, by simp; omega, by omega, TZ, hnb, T5z, RZ, hOz, ⟨_, _, _, rfl⟩, hne', Sz, Bz⟩
              case measure => (simp [intOf] <;> omega)
          · go_wp2_with fail
            refine (c_spec_l00Src_pick w0 g kd bs 12 _ Sd (by omega) (by omega)).mono ?_; rintro e wd2 ⟨y, kd2, rfl, hy0, hy1, -, hkd2, Sd2, Ud2⟩
            have hyb := hy1 (by omega)
            have hsd2 := Ud2.size
            replace TN := TN.upd Ud2 (by omega)
            replace T5 := T5.upd Ud2 (by omega)
            replace RB := RB.upd Ud2 (by omega)
            replace hO := (OwnIR.upd hO.ir Ud2 (Or.inr (by omega))).1
            have Bd2 := Bd.trans (Ud2.below (show w.heap.size ≤ g by omega) (by omega))
            clear Sd Bd Ud2 hy1
            have Sd := Sd2
            have Bd := Bd2
            have hwy : IntKind.i64.wrap (y - 1) = y - 1 := IntWalk.i64_in _ (by omega)
            clear Sd2 Bd2
            have hlen2 : xs.length < 1000000000 := by omega
            go_wp2_with (at_builtin; refine push_int_at rfl _ _ _ _ rfl Tryz.underlying26 infoI (g + 1) _ xs (y - 1) wd2 rfl rfl (by exact hO) hlen2 (by omega) ?_; intro v' w' ho' hg' hat' hs'; refine stop_of ?_)
            unfold Stopped
            have hlv : ∀ n, Value.ownBlock (.slice av LX cv) = some n → g + 1 ≤ n ∧ n ≠ GN ∧ n ≠ G := fun n e => ⟨OwnI.gt hO n e, hne n e⟩
            replace TN := TN.grown hg' (fun e => by have := hlv GN e; omega)
            replace T5 := T5.grown hg' (fun e => by have := hlv G e; omega)
            replace RB := RB.grown hg' (fun e => by have := hlv _ e; omega)
            have Se := Sd.grown hg' (fun n e => by have := hlv n e; omega)
            have Be := Bd.grown hg' Bd.size (fun n e => by have := hlv n e; omega)
            have hne' : ∀ n, Value.ownBlock v' = some n → n ≠ GN ∧ n ≠ G := fun n e => by
              rcases hat' with h | h
              · rw [h] at e; have := hlv n e; omega
              · rw [h] at e; simp only [Option.some.injEq] at e; omega
            obtain ⟨a9, c9, hv9, -⟩ := ho'.rd
            obtain ⟨L9, hL9⟩ : ∃ L9, (xs ++ [(y - 1)]).length = L9 := ⟨_, rfl⟩
            have hL9b : L9 ≤ LX + 1 := by rw [← hL9, HLE.out]; simp
            rw [hL9] at hv9
            subst hv9
            clear hO hg' hat' Sd Bd
            have n0 := TN.c0
            have n1 := TN.c1
            go_wp2_with fail
            refine (c_spec_l08Can H mm (y - 1) _ (by omega) hmb).mono ?_; rintro e we ⟨rfl, hbe⟩
            replace TN := TN.below hbe
            replace T5 := T5.below hbe
            replace RB := RB.below hbe
            have Sf := Se.below hbe
            have Bf := Be.tr hbe
            have hOf := ho'.below hbe
            have hse := hbe.size
            clear Se Be hbe ho' n0 n1
            cases hcan : canB H mm (y - 1)
            · go_wp2
              go_roundw
              case rel => exact ⟨j - 1, kd2, mm, _, xs ++ [(y - 1)], by omega, by rw [show ((j - 1 : Nat) : Int) = (j : Int) - 1 by omega], rfl, by simp; omega, by omega, TN, hm2, T5, RB, hOf, ⟨_, _, _, rfl⟩, hne', Sf, Bf⟩
              case measure => (simp [intOf] <;> omega)
            · have htl := can_le (by omega) hcan
              have n0 := TN.c0
              have n1 := TN.c1
              have nf0 := TN.f0
              have nf1 := TN.f1
              have hnb := next_bd hHb hm2 htl.2
              go_wp2_with fail
              refine (c_spec_l08Next H mm (y - 1) _ hmb (by omega)).mono ?_; rintro e wf ⟨rfl, hbf⟩
              replace TN := TN.below hbf
              replace T5 := T5.below hbf
              replace RB := RB.below hbf
              have Sg := Sf.below hbf
              have Bg := Bf.tr hbf
              have hOg := hOf.below hbf
              have hsf := hbf.size
              clear Sf Bf hbf hOf n0 n1 nf0 nf1
              have n0 := TN.c0
              have n1 := TN.c1
              have nf0 := TN.f0
              have nf1 := TN.f1
              obtain ⟨TZ, gz⟩ := TN.set (.int .i64 H) (.int .i64 (nextM mm (y - 1)))
              have T5z := T5.grown gz (by simp only [ne_eq, Option.some.injEq]; omega)
              have RZ := RB.grown gz (by simp only [ne_eq, Option.some.injEq]; omega)
              have Sz := Sg.grown gz (fun n e => by simp only [Option.some.injEq] at e; omega)
              have Bz := Bg.grown gz Bg.size (fun n e => by simp only [Option.some.injEq] at e; omega)
              have hOz : OwnI 2 (g + 1) ((wf.setCell ⟨GN, 0, none⟩ (.int .i64 H)).setCell ⟨GN, 1, none⟩ (.int .i64 (nextM mm (y - 1)))) (.slice a9 L9 c9) (xs ++ [(y - 1)]) := OwnI.far hOg gz (fun k hk e => by simp only [Option.some.injEq] at e; exact (hne' k hk).1 e.symm)
              go_wp2
              generalize ((wf.setCell ⟨GN, 0, none⟩ (.int .i64 H)).setCell ⟨GN, 1, none⟩ (.int .i64 (nextM mm (y - 1)))) = wz at *
              go_roundw
              case rel => exact ⟨j - 1, kd2, nextM mm (y - 1), _, xs ++ [(y - 1)], by omega, by rw [show ((j - 1 : Nat) : Int) = (j : Int) - 1 by omega], rfl, by simp; omega, by omega, TZ, hnb, T5z, RZ, hOz, ⟨_, _, _, rfl⟩, hne', Sz, Bz⟩
              case measure => (simp [intOf] <;> omega)
      · have hj1 : ¬ (0 : Int) < (j : Int) := by omega
        have t0 := T5.c0
        have t1 := T5.c1
        have r0 := RB.c0
        have r1 := RB.c1
        have rf0 := RB.f0
        have rf1 := RB.f1
        obtain ⟨RZ, gz⟩ := RB.set (.int .i64 H) (.int .i64 m)
        have hOz : OwnI 2 (g + 1) _ (.slice av LX cv) xs := OwnI.far hO gz (fun k hk e => by simp only [Option.some.injEq] at e; have := OwnI.gt hO k hk; omega)
        have Bz := Ba.grown gz Ba.size (fun n e => by simp only [Option.some.injEq] at e; omega)
        go_wp2
        have X0 := RZ.c0
        have X1 := RZ.c1
        refine bodyPost_ret (v := .tuple #[.agg #[.int .i64 H, .int .i64 m], .slice av LX cv]) (by simp [results, Tryz.results6, go_sem, X0, X1]) rfl ?_
        first
          | exact ⟨_, xs, H, m, rfl, hOz.base (by omega), by omega, Bz⟩
          | exact ⟨_, ⟨H, m, rfl⟩, xs, hOz.base (by omega), by omega, Bz⟩
  · go_wp2_with fail
    refine (c_spec_l00Src_pick w0 g k7 bs 2 _ S7 (by omega) (by omega)).mono ?_; rintro e w8 ⟨y8, kq, rfl, hy0, hy1, -, hkq, Sq, Uq⟩
    have hy := hy1 (by omega)
    have hs8 := Uq.size
    replace TN := TN.upd Uq (by omega)
    replace T5 := T5.upd Uq (by omega)
    replace RB := RB.upd Uq (by omega)
    replace hO := (OwnIR.upd hO.ir Uq (Or.inr (by omega))).1
    have Bq := B7.trans (Uq.below (show w.heap.size ≤ g by omega) (by omega))
    obtain ⟨N, hN8⟩ : ∃ N : Nat, 696 + y8 = (N : Int) := ⟨(696 + y8).toNat, by omega⟩
    have hN : N ≤ 697 := by omega
    have hkqb : kq ≤ 100 := by omega
    have hwN : IntKind.i64.wrap (696 + y8) = (N : Int) := by rw [hN8]; exact IntWalk.i64_in _ (by omega)
    clear S7 B7 Uq hy1 hN8
    go_wp2_with fail
    go_loopw [6, 9] (fun s i wr => ∃ (j q : Nat) (mm : Int) (v : Value) (xs : List Int), j ≤ N ∧ i = .int .i64 j ∧ s = v ∧ xs.length + j ≤ N ∧ q + 30 * j ≤ kq + 30 * N ∧ VBox wr GN (.int .i64 H) (.int .i64 mm) ∧ (0 ≤ mm ∧ mm < 2 ^ H.toNat) ∧ VBox wr G (.int .i64 H) (.int .i64 m) ∧ VBox wr w.heap.size (.int .i64 0) (.int .i64 0) ∧ OwnI 2 (g + 1) wr v xs ∧ (∃ a n c, v = .slice a n c) ∧ (∀ n, v.ownBlock = some n → n ≠ GN ∧ n ≠ G) ∧ Src w0 g bs q wr ∧ Below w.heap.size w wr) (fun _ i _ => (intOf i).toNat)
    case atStart => exact ⟨N, kq, m, _, [], by omega, by go_num, rfl, by simp, by omega, TN, hm0, T5, RB, hO, ⟨_, _, _, rfl⟩, hne, Sq, Bq⟩
    case round =>
      clear TN T5 RB hO hne Sq Bq
      obtain ⟨j, qk, mm, v, xs, hj, rfl, rfl, hxl, hq, TN, hm2, T5, RB, hO, ⟨av, LX, cv, hvv⟩, hne, Sa, Ba⟩ := hrel
      subst hvv
      obtain ⟨wo, rfl⟩ : ∃ wo : World, wo = wr := ⟨_, rfl⟩
      have hLX : LX = xs.length := by obtain ⟨_, _, he, -⟩ := hO.rd; cases he; rfl
      have hLXb : LX ≤ N := by omega
      have hmb : 0 ≤ mm ∧ mm < 1024 := by omega
      have hgo := Sa.lt
      have hno := TN.lt
      have hwo := Ba.size
      have HLE := Lib.hid hLX
      clear hLX
      by_cases hj0 : 0 < j
      · have hj1 : (0 : Int) < (j : Int) := by omega
        have n0 := TN.c0
        have n1 := TN.c1
        go_wp2_with fail
        refine (c_spec_l08Throws H mm _ (by omega) hmb).mono ?_; rintro e wa ⟨vl, rfl, hol, hba⟩
        obtain ⟨al, cl, rfl, hll, hlc⟩ := hol.rd
        have hsa := hba.size
        replace TN := TN.below hba
        replace T5 := T5.below hba
        replace RB := RB.below hba
        replace hO := hO.below hba
        have Sb := Sa.below hba
        have Bb := Ba.tr hba
        have hTl : (throwsL H mm).length ≤ 11 := by have := throwsTo_len H mm (H + 1).toNat; unfold throwsL; omega
        have HLC := Lib.hid hlc
        have hblo := fun n e => OwnI.gt hol n e
        obtain ⟨TL, hTL⟩ : ∃ TL, (throwsL H mm).length = TL := ⟨_, rfl⟩
        have HTL := Lib.hid hTL
        rw [hTL] at hTl ⊢
        clear n0 n1 hba Sa Ba hol hlc hll hTL
        by_cases hl0 : TL = 0
        · have tl0 : ((TL : Int) == 0) = true := by rw [beq_iff_eq]; omega
          have t0 := T5.c0
          have t1 := T5.c1
          have r0 := RB.c0
          have r1 := RB.c1
          have rf0 := RB.f0
          have rf1 := RB.f1
          obtain ⟨RZ, gz⟩ := RB.set (.int .i64 H) (.int .i64 m)
          have hOz : OwnI 2 (g + 1) _ (.slice av LX cv) xs := OwnI.far hO gz (fun k hk e => by simp only [Option.some.injEq] at e; have := OwnI.gt hO k hk; omega)
          have Bz := Bb.grown gz Bb.size (fun n e => by simp only [Option.some.injEq] at e; omega)
          go_wp2
          have X0 := RZ.c0
          have X1 := RZ.c1
          refine bodyPost_ret (v := .tuple #[.agg #[.int .i64 H, .int .i64 m], .slice av LX cv]) (by simp [results, Tryz.results6, go_sem, X0, X1]) rfl ?_
          first
            | exact ⟨_, xs, H, m, rfl, hOz.base (by omega), by omega, Bz⟩
            | exact ⟨_, ⟨H, m, rfl⟩, xs, hOz.base (by omega), by omega, Bz⟩
        · have tl0 : ((TL : Int) == 0) = false := beq_eq_false_iff_ne.2 (by omega)
          go_wp2_with fail
          refine (c_spec_l00Src_pick w0 g qk bs TL _ Sb (by omega) (by omega)).mono ?_; rintro e wc ⟨x, kc, rfl, hx0, hx1, -, hkc, Sc, Uc⟩
          have hxl2 := hx1 (by omega)
          obtain ⟨I, rfl⟩ : ∃ I : Nat, x = (I : Int) := ⟨x.toNat, by omega⟩
          have hI : I < (throwsL H mm).length := by rw [HTL.out]; omega
          obtain ⟨bl, ol, rfl, hcell⟩ := HLC.out I hI
          obtain ⟨tv, htv⟩ : ∃ tv, (throwsL H mm).getD I 0 = tv := ⟨_, rfl⟩
          rw [htv] at hcell
          have hblw : bl < wa.heap.size := World.block_lt_of_cell? _ _ hcell
          have hcell2 : wc.cell? ⟨bl, ol + I, none⟩ = some (.int .i64 tv) := (Uc.cell bl (ol + I) (by have := hblo bl rfl; omega) hblw).trans hcell
          have hsc := Uc.size
          replace TN := TN.upd Uc (by omega)
          replace T5 := T5.upd Uc (by omega)
          replace RB := RB.upd Uc (by omega)
          replace hO := (OwnIR.upd hO.ir Uc (Or.inr (by omega))).1
          have Bc := Bb.trans (Uc.below (show w.heap.size ≤ g by omega) (by omega))
          have hin0 : (0 : Int) ≤ (I : Int) := Int.natCast_nonneg _
          have hin1 : (I : Int) < (TL : Int) := hxl2
          clear Sb Bb Uc hcell HLC htv hx1 hblo
          go_wp2_with fail
          refine (c_spec_l00Src_one w0 g kc bs 200 _ Sc (by omega) (by omega)).mono ?_; rintro e wd ⟨bb, kd, rfl, hkd, Sd, Ud⟩
          have hsd := Ud.size
          replace TN := TN.upd Ud (by omega)
          replace T5 := T5.upd Ud (by omega)
          replace RB := RB.upd Ud (by omega)
          replace hO := (OwnIR.upd hO.ir Ud (Or.inr (by omega))).1
          have Bd := Bc.trans (Ud.below (show w.heap.size ≤ g by omega) (by omega))
          clear Sc Bc Ud hcell2
          cases bb
          · skip
            have hlen2 : xs.length < 1000000000 := by omega
            go_wp2_with (at_builtin; refine push_int_at rfl _ _ _ _ rfl Tryz.underlying26 infoI (g + 1) _ xs tv wd rfl rfl (by exact hO) hlen2 (by omega) ?_; intro v' w' ho' hg' hat' hs'; refine stop_of ?_)
            unfold Stopped
            have hlv : ∀ n, Value.ownBlock (.slice av LX cv) = some n → g + 1 ≤ n ∧ n ≠ GN ∧ n ≠ G := fun n e => ⟨OwnI.gt hO n e, hne n e⟩
            replace TN := TN.grown hg' (fun e => by have := hlv GN e; omega)
            replace T5 := T5.grown hg' (fun e => by have := hlv G e; omega)
            replace RB := RB.grown hg' (fun e => by have := hlv _ e; omega)
            have Se := Sd.grown hg' (fun n e => by have := hlv n e; omega)
            have Be := Bd.grown hg' Bd.size (fun n e => by have := hlv n e; omega)
            have hne' : ∀ n, Value.ownBlock v' = some n → n ≠ GN ∧ n ≠ G := fun n e => by
              rcases hat' with h | h
              · rw [h] at e; have := hlv n e; omega
              · rw [h] at e; simp only [Option.some.injEq] at e; omega
            obtain ⟨a9, c9, hv9, -⟩ := ho'.rd
            obtain ⟨L9, hL9⟩ : ∃ L9, (xs ++ [tv]).length = L9 := ⟨_, rfl⟩
            have hL9b : L9 ≤ LX + 1 := by rw [← hL9, HLE.out]; simp
            rw [hL9] at hv9
            subst hv9
            clear hO hg' hat' Sd Bd
            have n0 := TN.c0
            have n1 := TN.c1
            go_wp2_with fail
            refine (c_spec_l08Can H mm tv _ (by omega) hmb).mono ?_; rintro e we ⟨rfl, hbe⟩
            replace TN := TN.below hbe
            replace T5 := T5.below hbe
            replace RB := RB.below hbe
            have Sf := Se.below hbe
            have Bf := Be.tr hbe
            have hOf := ho'.below hbe
            have hse := hbe.size
            clear Se Be hbe ho' n0 n1
            cases hcan : canB H mm tv
            · go_wp2
              go_roundw
              case rel => exact ⟨j - 1, kd, mm, _, xs ++ [tv], by omega, by rw [show ((j - 1 : Nat) : Int) = (j : Int) - 1 by omega], rfl, by simp; omega, by omega, TN, hm2, T5, RB, hOf, ⟨_, _, _, rfl⟩, hne', Sf, Bf⟩
              case measure => (simp [intOf] <;> omega)
            · have htl := can_le (by omega) hcan
              have n0 := TN.c0
              have n1 := TN.c1
              have nf0 := TN.f0
              have nf1 := TN.f1
              have hnb := next_bd hHb hm2 htl.2
              go_wp2_with fail
              refine (c_spec_l08Next H mm tv _ hmb (by omega)).mono ?_; rintro e wf ⟨rfl, hbf⟩
              replace TN := TN.below hbf
              replace T5 := T5.below hbf
              replace RB := RB.below hbf
              have Sg := Sf.below hbf
              have Bg := Bf.tr hbf
              have hOg := hOf.below hbf
              have hsf := hbf.size
              clear Sf Bf hbf hOf n0 n1 nf0 nf1
              have n0 := TN.c0
              have n1 := TN.c1
              have nf0 := TN.f0
              have nf1 := TN.f1
              obtain ⟨TZ, gz⟩ := TN.set (.int .i64 H) (.int .i64 (nextM mm tv))
              have T5z := T5.grown gz (by simp only [ne_eq, Option.some.injEq]; omega)
              have RZ := RB.grown gz (by simp only [ne_eq, Option.some.injEq]; omega)
              have Sz := Sg.grown gz (fun n e => by simp only [Option.some.injEq] at e; omega)
              have Bz := Bg.grown gz Bg.size (fun n e => by simp only [Option.some.injEq] at e; omega)
              have hOz : OwnI 2 (g + 1) ((wf.setCell ⟨GN, 0, none⟩ (.int .i64 H)).setCell ⟨GN, 1, none⟩ (.int .i64 (nextM mm tv))) (.slice a9 L9 c9) (xs ++ [tv]) := OwnI.far hOg gz (fun k hk e => by simp only [Option.some.injEq] at e; exact (hne' k hk).1 e.symm)
              go_wp2
              generalize ((wf.setCell ⟨GN, 0, none⟩ (.int .i64 H)).setCell ⟨GN, 1, none⟩ (.int .i64 (nextM mm tv))) = wz at *
              go_roundw
              case rel => exact ⟨j - 1, kd, nextM mm tv, _, xs ++ [tv], by omega, by rw [show ((j - 1 : Nat) : Int) = (j : Int) - 1 by omega], rfl, by simp; omega, by omega, TZ, hnb, T5z, RZ, hOz, ⟨_, _, _, rfl⟩, hne', Sz, Bz⟩
              case measure => (simp [intOf] <;> omega)
          · go_wp2_with fail
            refine (c_spec_l00Src_pick w0 g kd bs 12 _ Sd (by omega) (by omega)).mono ?_; rintro e wd2 ⟨y, kd2, rfl, hy0, hy1, -, hkd2, Sd2, Ud2⟩
            have hyb := hy1 (by omega)
            have hsd2 := Ud2.size
            replace TN := TN.upd Ud2 (by omega)
            replace T5 := T5.upd Ud2 (by omega)
            replace RB := RB.upd Ud2 (by omega)
            replace hO := (OwnIR.upd hO.ir Ud2 (Or.inr (by omega))).1
            have Bd2 := Bd.trans (Ud2.below (show w.heap.size ≤ g by omega) (by omega))
            clear Sd Bd Ud2 hy1
            have Sd := Sd2
            have Bd := Bd2
            have hwy : IntKind.i64.wrap (y - 1) = y - 1 := IntWalk.i64_in _ (by omega)
            clear Sd2 Bd2
            have hlen2 : xs.length < 1000000000 := by omega
            go_wp2_with (at_builtin; refine push_int_at rfl _ _ _ _ rfl Tryz.underlying26 infoI (g + 1) _ xs (y - 1) wd2 rfl rfl (by exact hO) hlen2 (by omega) ?_; intro v' w' ho' hg' hat' hs'; refine stop_of ?_)
            unfold Stopped
            have hlv : ∀ n, Value.ownBlock (.slice av LX cv) = some n → g + 1 ≤ n ∧ n ≠ GN ∧ n ≠ G := fun n e => ⟨OwnI.gt hO n e, hne n e⟩
            replace TN := TN.grown hg' (fun e => by have := hlv GN e; omega)
            replace T5 := T5.grown hg' (fun e => by have := hlv G e; omega)
            replace RB := RB.grown hg' (fun e => by have := hlv _ e; omega)
            have Se := Sd.grown hg' (fun n e => by have := hlv n e; omega)
            have Be := Bd.grown hg' Bd.size (fun n e => by have := hlv n e; omega)
            have hne' : ∀ n, Value.ownBlock v' = some n → n ≠ GN ∧ n ≠ G := fun n e => by
              rcases hat' with h | h
              · rw [h] at e; have := hlv n e; omega
              · rw [h] at e; simp only [Option.some.injEq] at e; omega
            obtain ⟨a9, c9, hv9, -⟩ := ho'.rd
            obtain ⟨L9, hL9⟩ : ∃ L9, (xs ++ [(y - 1)]).length = L9 := ⟨_, rfl⟩
            have hL9b : L9 ≤ LX + 1 := by rw [← hL9, HLE.out]; simp
            rw [hL9] at hv9
            subst hv9
            clear hO hg' hat' Sd Bd
            have n0 := TN.c0
            have n1 := TN.c1
            go_wp2_with fail
            refine (c_spec_l08Can H mm (y - 1) _ (by omega) hmb).mono ?_; rintro e we ⟨rfl, hbe⟩
            replace TN := TN.below hbe
            replace T5 := T5.below hbe
            replace RB := RB.below hbe
            have Sf := Se.below hbe
            have Bf := Be.tr hbe
            have hOf := ho'.below hbe
            have hse := hbe.size
            clear Se Be hbe ho' n0 n1
            cases hcan : canB H mm (y - 1)
            · go_wp2
              go_roundw
              case rel => exact ⟨j - 1, kd2, mm, _, xs ++ [(y - 1)], by omega, by rw [show ((j - 1 : Nat) : Int) = (j : Int) - 1 by omega], rfl, by simp; omega, by omega, TN, hm2, T5, RB, hOf, ⟨_, _, _, rfl⟩, hne', Sf, Bf⟩
              case measure => (simp [intOf] <;> omega)
            · have htl := can_le (by omega) hcan
              have n0 := TN.c0
              have n1 := TN.c1
              have nf0 := TN.f0
              have nf1 := TN.f1
              have hnb := next_bd hHb hm2 htl.2
              go_wp2_with fail
              refine (c_spec_l08Next H mm (y - 1) _ hmb (by omega)).mono ?_; rintro e wf ⟨rfl, hbf⟩
              replace TN := TN.below hbf
              replace T5 := T5.below hbf
              replace RB := RB.below hbf
              have Sg := Sf.below hbf
              have Bg := Bf.tr hbf
              have hOg := hOf.below hbf
              have hsf := hbf.size
              clear Sf Bf hbf hOf n0 n1 nf0 nf1
              have n0 := TN.c0
              have n1 := TN.c1
              have nf0 := TN.f0
              have nf1 := TN.f1
              obtain ⟨TZ, gz⟩ := TN.set (.int .i64 H) (.int .i64 (nextM mm (y - 1)))
              have T5z := T5.grown gz (by simp only [ne_eq, Option.some.injEq]; omega)
              have RZ := RB.grown gz (by simp only [ne_eq, Option.some.injEq]; omega)
              have Sz := Sg.grown gz (fun n e => by simp only [Option.some.injEq] at e; omega)
              have Bz := Bg.grown gz Bg.size (fun n e => by simp only [Option.some.injEq] at e; omega)
              have hOz : OwnI 2 (g + 1) ((wf.setCell ⟨GN, 0, none⟩ (.int .i64 H)).setCell ⟨GN, 1, none⟩ (.int .i64 (nextM mm (y - 1)))) (.slice a9 L9 c9) (xs ++ [(y - 1)]) := OwnI.far hOg gz (fun k hk e => by simp only [Option.some.injEq] at e; exact (hne' k hk).1 e.symm)
              go_wp2
              generalize ((wf.setCell ⟨GN, 0, none⟩ (.int .i64 H)).setCell ⟨GN, 1, none⟩ (.int .i64 (nextM mm (y - 1)))) = wz at *
              go_roundw
              case rel => exact ⟨j - 1, kd2, nextM mm (y - 1), _, xs ++ [(y - 1)], by omega, by rw [show ((j - 1 : Nat) : Int) = (j : Int) - 1 by omega], rfl, by simp; omega, by omega, TZ, hnb, T5z, RZ, hOz, ⟨_, _, _, rfl⟩, hne', Sz, Bz⟩
              case measure => (simp [intOf] <;> omega)
      · have hj1 : ¬ (0 : Int) < (j : Int) := by omega
        have t0 := T5.c0
        have t1 := T5.c1
        have r0 := RB.c0
        have r1 := RB.c1
        have rf0 := RB.f0
        have rf1 := RB.f1
        obtain ⟨RZ, gz⟩ := RB.set (.int .i64 H) (.int .i64 m)
        have hOz : OwnI 2 (g + 1) _ (.slice av LX cv) xs := OwnI.far hO gz (fun k hk e => by simp only [Option.some.injEq] at e; have := OwnI.gt hO k hk; omega)
        have Bz := Ba.grown gz Ba.size (fun n e => by simp only [Option.some.injEq] at e; omega)
        go_wp2
        have X0 := RZ.c0
        have X1 := RZ.c1
        refine bodyPost_ret (v := .tuple #[.agg #[.int .i64 H, .int .i64 m], .slice av LX cv]) (by simp [results, Tryz.results6, go_sem, X0, X1]) rfl ?_
        first
          | exact ⟨_, xs, H, m, rfl, hOz.base (by omega), by omega, Bz⟩
          | exact ⟨_, ⟨H, m, rfl⟩, xs, hOz.base (by omega), by omega, Bz⟩
end Go.Proofs.YtioemkdapoombaaGreatDoor
