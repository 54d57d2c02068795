/- The law FnRoutines returns true for all slices of bytes. No condition. -/
import Derived.Test.YtjjghmmpfnlpaaaPlainRo
import Derived.Test.YtjjghmmpfnlpaaaDrX
import Derived.Test.YtjjghmmpfnlpaaaLawX
import Derived.Test.YtjjghmmpfnlpaaaThrE
import Derived.Test.YtjjghmmpfnlpaaaPartI
import Derived.Test.YtjjghmmpfnlpaaaBrD
import Derived.Test.YtjjghmmpfnlpaaaCmpS
import Derived.Laws.StructEq
namespace Go.Proofs.Ytjjghmmpfnlpaaa
open Go.ChangeShapes Go.WideShapes Go.ChangeAt Go.RowKit
set_option linter.unusedSimpArgs false
set_option linter.unusedVariables false
namespace fnRoutines
theorem c_spec_ValidRoutine (X : List Part2) (h : Int) (v : Value) (w : World) (hr : RdP w v X) :
    Calls Try.prog 42 #[.agg #[.int .i64 h, v]] w fun e w' => e = .returned (.bool (validR h X)) ∧ Below w.heap.size w w' := by
  obtain ⟨W0, hW0, k0, k1, B0⟩ := routOf w 26 h v
  have hr0 := hr.below B0
  obtain ⟨a1, cap1, rfl, -, -⟩ := hr
  go_enter Try.func42, Try.ntmps42
  go_wp2_with fail
  rw [← hW0]
  clear hW0
  refine (c_spec_l19Ok X h _ _ _ hr0 k0 k1).mono ?_; rintro e w1 ⟨rfl, hb1⟩
  go_wp2
  go_ret
  exact ⟨rfl, B0.tr hb1⟩
set_option maxHeartbeats 16000000 in
set_option maxRecDepth 100000 in
theorem walk (v0 : Value) (w : World) (a0 : Arg_bytes w v0) : Calls Try.prog 5 #[v0] w fun e w' => e = .returned (.bool true) ∧ Below w.heap.size w w' := by
  obtain ⟨bs, hb0⟩ := a0
  have HB0 := Lib.hid hb0
  obtain ⟨aa, ca, rfl, hla, -, -⟩ := hb0
  cases hlong : decide ((bs.length : Int) > 4096)
  rotate_left
  · go_enter Try.func5, Try.ntmps5
    go_wp2_with fail
    refine (c_laws_f6big _ _ _ _ (by omega)).mono ?_; rintro e w1 ⟨rfl, rfl⟩; rw [hlong]
    go_wp2
    go_ret
    exact ⟨rfl, by (repeat (first | (with_reducible assumption) | (with_reducible exact Below.refl _ _) | (with_reducible refine Below.setCell ?_ (by first | (simp; done) | (simp; omega)) _) | (with_reducible refine Below.al ?_ _) | (with_reducible refine Below.dr ?_) | (with_reducible refine Below.drN ?_ _) | (with_reducible refine Below.tr ?_ (by with_reducible assumption))))⟩
  go_enter Try.func5, Try.ntmps5
  go_wp2_with fail
  refine (c_laws_f6big _ _ _ _ (by omega)).mono ?_; rintro e w1 ⟨rfl, rfl⟩; rw [hlong]
  go_wp2_with fail
  refine (c_spec_DrawRoutineThrows bs _ _ HB0.out).mono ?_; rintro e w1 ⟨u, X, h, rfl, hr, B1⟩
  obtain ⟨au, cu, hu, hXl, -⟩ := id hr
  subst hu
  have RB := VBox.new w1 26 (.int .i64 h) (.slice au X.length cu)
  have Q2 : Below w1.heap.size w1 (w1.alloc (Obj.cells #[.int .i64 h, .slice au X.length cu] 26)) := (Below.refl _ _).al _
  have HR := Lib.hid (hr.below Q2)
  go_wp2_with fail
  generalize (w1.alloc (Obj.cells #[.int .i64 h, .slice au X.length cu] 26)) = w2 at *
  have BB := B1.tr Q2
  clear Q2 hr
  obtain ⟨G, hG⟩ : ∃ G, w1.heap.size = G := ⟨_, rfl⟩
  rw [hG] at RB ⊢
  clear hG
  refine (c_impl_RoutineThrows X h _ _ HR.out).mono ?_; rintro e w3 ⟨vT, rfl, oT, hb3⟩
  have Q3 := hb3
  have RB3 := RB.below Q3
  have z0 := RB3.c0
  have z1 := RB3.c1
  have hzl : G < w3.heap.size := RB3.lt
  go_wp2_with fail
  refine (c_spec_RoutineThrows X h _ _ (HR.out.below Q3)).mono ?_; rintro e w4 ⟨vT2, rfl, oT2, hb4⟩
  have Q4 := Q3.tr hb4
  have RB4 := RB.below Q4
  have z0 := RB4.c0
  have z1 := RB4.c1
  have hzl : G < w4.heap.size := RB4.lt
  go_wp2_with fail
  refine (c_impl_RoutineBeats X h _ _ (HR.out.below Q4)).mono ?_; rintro e w5 ⟨rfl, hb5⟩
  have Q5 := Q4.tr hb5
  have RB5 := RB.below Q5
  have z0 := RB5.c0
  have z1 := RB5.c1
  have hzl : G < w5.heap.size := RB5.lt
  go_wp2_with fail
  refine (c_spec_RoutineBeats X h _ _ (HR.out.below Q5)).mono ?_; rintro e w6 ⟨rfl, hb6⟩
  have Q6 := Q5.tr hb6
  have RB6 := RB.below Q6
  have z0 := RB6.c0
  have z1 := RB6.c1
  have hzl : G < w6.heap.size := RB6.lt
  go_wp2_with fail
  refine (c_impl_BridgesIn X h _ _ (HR.out.below Q6)).mono ?_; rintro e w7 ⟨vB, rfl, oB, hb7⟩
  have Q7 := Q6.tr hb7
  have RB7 := RB.below Q7
  have z0 := RB7.c0
  have z1 := RB7.c1
  have hzl : G < w7.heap.size := RB7.lt
  go_wp2_with fail
  refine (c_spec_BridgesIn X h _ _ (HR.out.below Q7)).mono ?_; rintro e w8 ⟨vB2, rfl, oB2, hb8⟩
  have Q8 := Q7.tr hb8
  have RB8 := RB.below Q8
  have z0 := RB8.c0
  have z1 := RB8.c1
  have hzl : G < w8.heap.size := RB8.lt
  go_wp2_with fail
  refine (c_spec_DrawPartAt bs _ _ (HB0.out.below (BB.tr Q8))).mono ?_; rintro e w9 ⟨u9, Z, hz, bt, rfl, hr9, hb9⟩
  have Q9 := Q8.tr hb9
  obtain ⟨az, cz, hu9, -⟩ := id hr9
  subst hu9
  have RB9 := RB.below Q9
  have z0 := RB9.c0
  have z1 := RB9.c1
  have hzl : G < w9.heap.size := RB9.lt
  have hzn : ¬ w9.heap.size = G := by omega
  have PB := VBox.new w9 26 (.int .i64 hz) (.slice az Z.length cz)
  have hb10 : Below w9.heap.size w9 (w9.alloc (Obj.cells #[.int .i64 hz, .slice az Z.length cz] 26)) := (Below.refl _ _).al _
  have HZ := Lib.hid (hr9.below hb10)
  go_wp2_with fail
  generalize (w9.alloc (Obj.cells #[.int .i64 hz, .slice az Z.length cz] 26)) = w10 at *
  have Q10 := Q9.tr hb10
  obtain ⟨F, hF⟩ : ∃ F, w9.heap.size = F := ⟨_, rfl⟩
  rw [hF] at PB hzn ⊢
  clear hF hr9
  refine (c_impl_PartAt Z hz bt _ _ HZ.out).mono ?_; rintro e w11 ⟨rfl, hb11⟩
  have Q11 := Q10.tr hb11
  have PB11 := PB.below hb11
  have z0 := PB11.c0
  have z1 := PB11.c1
  have hzl : F < w11.heap.size := PB11.lt
  go_wp2_with fail
  refine (c_spec_PartAt Z hz bt _ _ (HZ.out.below hb11)).mono ?_; rintro e w12 ⟨rfl, hb12⟩
  have Q12 := Q11.tr hb12
  have RB12 := RB.below Q12
  have T12 := Lib.hid (((((((((oT.rd.below hb4).below hb5).below hb6).below hb7).below hb8).below hb9).below hb10).below hb11).below hb12)
  have T12' := Lib.hid ((((((((oT2.rd.below hb5).below hb6).below hb7).below hb8).below hb9).below hb10).below hb11).below hb12)
  have B12 := Lib.hid (((((oB.rd.below hb8).below hb9).below hb10).below hb11).below hb12)
  have B12' := Lib.hid ((((oB2.rd.below hb9).below hb10).below hb11).below hb12)
  have R12 := Lib.hid (HR.out.below Q12)
  have BB12 := BB.tr Q12
  obtain ⟨aT, cT, rfl, -, -⟩ := oT.rd
  obtain ⟨aT2, cT2, rfl, -, -⟩ := oT2.rd
  obtain ⟨aB, cB, rfl, -, -⟩ := oB.rd
  obtain ⟨aB2, cB2, rfl, -, -⟩ := oB2.rd
  clear oT oT2 oB oB2 hb3 hb4 hb5 hb6 hb7 hb8 hb9 hb10 hb11 hb12 Q3 Q4 Q5 Q6 Q7 Q8 Q9 Q10 Q11 Q12 RB RB3 RB4 RB5 RB6 RB7 RB8 RB9 PB PB11 HR HZ BB B1 HB0 z0 z1 hzl
  obtain ⟨C, hC⟩ : ∃ C, rtC h X = C := ⟨_, rfl⟩
  obtain ⟨T, hT⟩ : ∃ T, thX h X = T := ⟨_, rfl⟩
  obtain ⟨B, hB⟩ : ∃ B, brX h X = B := ⟨_, rfl⟩
  obtain ⟨V, hV⟩ : ∃ V, validR h X = V := ⟨_, rfl⟩
  obtain ⟨p1, hp1⟩ : ∃ p1, ptX hz Z bt = p1 := ⟨_, rfl⟩
  obtain ⟨p2, hp2⟩ : ∃ p2, ptC hz Z bt = p2 := ⟨_, rfl⟩
  rw [hT] at T12 T12' ⊢
  rw [hB] at B12 B12' ⊢
  rw [hC, hp1, hp2]
  have HC := Lib.hid hC
  have HT := Lib.hid hT
  have HB := Lib.hid hB
  have HV := Lib.hid hV
  clear hC hT hB hV hp1 hp2
  have t1 : (C != C) = false := by simp
  have t2 : ((T.length : Int) != (T.length : Int)) = false := by simp
  have t3 : (p1 != p1) = false := by simp
  have t4 : (p2 != p2) = false := by simp
  have t5 : (V != V) = false := by simp
  have z0 := RB12.c0
  have z1 := RB12.c1
  have e1 : RdI w12.drew (.slice aT T.length cT) T := T12.out
  have e2 : RdI w12.drew (.slice aT2 T.length cT2) T := T12'.out
  go_wp2_with fail
  go_region_held3 (fun w' => w'.cell? ⟨G, 0, none⟩ = some (.int .i64 h) ∧ w'.cell? ⟨G, 1, none⟩ = some (.slice au X.length cu))
    (go_keep)
    (first
      | ((go_at_call 16; refine (c_laws_f6ints T _ _ _ e1 e2).mono ?_; rintro e w13 ⟨rfl, q13⟩; have hb13 := below_drew q13; have z0 := keepc hb13 z0; have z1 := keepc hb13 z1; have g1 := B12.out.below hb13; have g2 := B12'.out.below hb13))
      | ((go_at_call 28; refine (c_laws_f6lists B _ _ _ g1 g2).mono ?_; rintro e w14 ⟨rfl, hb14⟩; have z0 := keepc hb14 z0; have z1 := keepc hb14 z1; have r1 := (R12.out.below hb13).below hb14))
      | ((go_at_call 41; refine (c_impl_ValidRoutine X h _ _ r1).mono ?_; rintro e w15 ⟨rfl, hb15⟩; rw [HV.out]; have z0 := keepc hb15 z0; have z1 := keepc hb15 z1; have r2 := r1.below hb15))
      | ((go_at_call 42; refine (c_spec_ValidRoutine X h _ _ r2).mono ?_; rintro e w16 ⟨rfl, hb16⟩; rw [HV.out]; have z0 := keepc hb16 z0; have z1 := keepc hb16 z1)))
  have Q16 := ((hb13.tr hb14).tr hb15).tr hb16
  have HB16 := Lib.hid (((B12.out.below hb13).below hb14).below (hb15.tr hb16))
  have HT16 := Lib.hid (T12.out.below Q16)
  have HR16 := Lib.hid (R12.out.below Q16)
  have BB16 := BB12.tr Q16
  clear e1 e2 g1 g2 r1 r2 q13 hb13 hb14 hb15 hb16 T12 T12' B12 B12' R12 BB12 Q16
  cases V
  · have hC1 : C = 1 := by rw [← HC.out]; unfold rtC; rw [HV.out]; rfl
    subst hC1
    go_wp2
    go_ret
    exact ⟨rfl, BB16⟩
  have hC0 : C = 0 := by rw [← HC.out]; unfold rtC; rw [HV.out]; rfl
  subst hC0
  have R := rout_ok HV.out
  have hlX := R.hl
  have hh := R.hh
  have hTT : thrR h X = T := by rw [← HT.out]; unfold thX; rw [HV.out]; rfl
  have hBB : brR h X = B := by rw [← HB.out]; unfold brX; rw [HV.out]; rfl
  have hrun := run_wk R.hh R.gr (thR_wk R)
  have hlen := thR_len R
  have hbl := brR_len h X
  have hN := R.n
  have hP0 : propsP (patR X 0) = headN X := R.hn 0 (by omega)
  have hVP0 : validP (patR X 0) = true := R.hv 0 (by omega)
  have hgr : groundI (headN X) = grR X := rfl
  have hps := pmul_sum R
  have hpb : ∀ k, k < X.length → 0 ≤ pmul X k ∧ pmul X k ≤ 240 := fun k hk => pmul_bd R hk
  have hpl : ∀ k, k < X.length → 1 ≤ (patR X k).length ∧ (patR X k).length ≤ 12 := fun k hk => pat_len R hk
  have htl : T.length ≤ 20000 := by rw [← HT.out]; exact thX_len h X
  rw [hTT] at hrun hlen
  rw [hBB] at hlen hbl
  obtain ⟨N, eN⟩ : ∃ N, headN X = N := ⟨_, rfl⟩
  obtain ⟨g, eg⟩ : ∃ g, grR X = g := ⟨_, rfl⟩
  rw [eN] at hN hP0 hgr
  rw [eg] at hrun hgr
  have HRUN := Lib.hid hrun
  have HLEN := Lib.hid hlen
  have HBL := Lib.hid hbl
  have HP0 := Lib.hid hP0
  have HVP0 := Lib.hid hVP0
  have HGR := Lib.hid hgr
  have HPS := Lib.hid hps
  have HPB := Lib.hid hpb
  have HPL := Lib.hid hpl
  clear hTT hBB hrun hlen hbl hP0 hVP0 hgr hps hpb hpl eN eg R
  obtain ⟨_, _, he, -, hc⟩ := HR16.out
  cases he
  obtain ⟨bx, ox, u0, rfl, x0, -, hru0⟩ := hc 0 (by omega)
  have x0 : w16.cell? ⟨bx, ox, none⟩ = some u0 := by simpa using x0
  have hru0 : RdI w16 u0 (patR X 0) := by rw [patR_at (by omega)]; exact hru0
  have hin0 : (0 : Int) < (X.length : Int) := by omega
  have hinN : 0 < X.length := by omega
  clear hc
  go_wp2_with fail
  refine (c_spec_PropsOf (patR X 0) _ _ hru0 HVP0.out).mono ?_; rintro e w17 ⟨rfl, hb17⟩
  rw [HP0.out]
  have z0 := keepc hb17 z0
  have z1 := keepc hb17 z1
  go_wp2_with fail
  refine (c_spec_GroundState N h _ hh hN).mono ?_; rintro e w18 ⟨rfl, hb18⟩
  rw [HGR.out]
  have z0 := keepc hb18 z0
  have z1 := keepc hb18 z1
  have hzl : G < w18.heap.size := World.block_lt_of_cell? _ _ z0
  have hzn : ¬ w18.heap.size = G := by omega
  have SB := VBox.new w18 60 (.int .i64 h) (.int .i64 g)
  have hb19 : Below w18.heap.size w18 (w18.alloc (Obj.cells #[.int .i64 h, .int .i64 g] 60)) := (Below.refl _ _).al _
  have Q19 := (hb17.tr hb18).tr hb19
  go_wp2_with fail
  generalize (w18.alloc (Obj.cells #[.int .i64 h, .int .i64 g] 60)) = w19 at *
  have z0 := keepc hb19 z0
  have z1 := keepc hb19 z1
  refine (c_impl_RunThrows h g T _ _ (HT16.out.below Q19)).mono ?_; rintro e w20 ⟨rfl, hb20⟩
  rw [HRUN.out.1, HRUN.out.2.1, HRUN.out.2.2.1, HRUN.out.2.2.2]
  have z0 := keepc hb20 z0
  have z1 := keepc hb20 z1
  have SB20 := SB.below hb20
  have Q20 := Q19.tr hb20
  have s0 := SB20.c0
  have s1 := SB20.c1
  have hsl : w18.heap.size < w20.heap.size := SB20.lt
  have hsn : ¬ w20.heap.size = w18.heap.size := by omega
  have hzl2 : G < w20.heap.size := by omega
  have hzn2 : ¬ w20.heap.size = G := by omega
  have hb21 : Below w20.heap.size w20 (w20.alloc (Obj.cells #[.int .i64 h, .int .i64 g] 60)) := (Below.refl _ _).al _
  have Q21 := Q20.tr hb21
  have HB21 := Lib.hid (HB16.out.below Q21)
  have HR21 := Lib.hid (HR16.out.below Q21)
  have BB21 := BB16.tr Q21
  have y0 := keepc hb21 z0
  have y1 := keepc hb21 z1
  have qs := fun w => neState w h g h g
  rw [decide_eq_true (⟨rfl, rfl⟩ : h = h ∧ g = g)] at qs
  have gs := gState
  obtain ⟨LB, hLB⟩ : ∃ LB, B.length = LB := ⟨_, rfl⟩
  rw [hLB] at HBL ⊢
  have t6 : ((LB : Int) != (X.length : Int) + 1) = false := by rw [HBL.out]; push_cast; simp
  have HLB := Lib.hid hLB
  have hLB9 : LB ≤ 9 := by have := HBL.out; omega
  have hb0 := sumLen_le B 0
  clear hLB x0 hru0 z0 z1 Q19 Q20 hb17 hb18 hb19 hb20 SB SB20
  go_wp2
  clear s0 s1
  generalize (w20.alloc (Obj.cells #[.int .i64 h, .int .i64 g] 60)) = w21 at *
  have hSB : sumLen B ≤ 20000 := by have h1 := HLEN.out; have h2 := HPS.out X.length (Nat.le_refl _); omega
  go_loopw [29, 30] (fun a i wr => ∃ k : Nat, k ≤ LB ∧ i = .int .i64 k ∧ a = .int .i64 (sumLen (B.take k) : Int) ∧ w21 = wr) (fun _ i _ => LB - (intOf i).toNat)
  case atStart => exact ⟨0, by omega, by go_num, by simp [sumLen], rfl⟩
  case round =>
    obtain ⟨m, hm, rfl, rfl, rfl⟩ := hrel
    have hsl := sumLen_le B m
    by_cases hlt : m < LB
    · have hlB : m < B.length := by rw [HLB.out]; exact hlt
      obtain ⟨_, _, he, -, hcg⟩ := HB21.out
      cases he
      obtain ⟨bg, og, ug, rfl, xg, hrg⟩ := hcg m hlB
      obtain ⟨ar, cr, rfl, -, -⟩ := hrg
      have HSN := Lib.hid (sumLen_snoc B m hlB)
      have hle2 := sumLen_le B (m + 1)
      rw [HSN.out] at hle2
      obtain ⟨Y, hY⟩ : ∃ Y, (B.getD m []).length = Y := ⟨_, rfl⟩
      obtain ⟨Z2, hZ2⟩ : ∃ Z2, sumLen (B.take m) = Z2 := ⟨_, rfl⟩
      rw [hY, hZ2] at HSN hle2
      rw [hY] at xg
      rw [hZ2]
      rw [hZ2] at hsl
      have hin1 : (m : Int) < (LB : Int) := by omega
      have hin2 : (0 : Int) ≤ (m : Int) := Int.natCast_nonneg _
      clear hcg
      go_wp2
      go_roundw
      case rel => exact ⟨m + 1, by omega, by go_num, by rw [HSN.out]; push_cast; rfl, by trivial⟩
      case measure => simp [intOf]; omega
    · have hmB : m = B.length := by rw [HLB.out]; omega
      have hfull : sumLen (B.take m) = sumLen B := by rw [hmB, List.take_length]
      rw [hfull]
      have hinG : ¬ (m : Int) < (LB : Int) := by omega
      obtain ⟨S, hS⟩ : ∃ S, sumLen B = S := ⟨_, rfl⟩
      rw [hS] at HLEN hSB ⊢
      have HP0S : Hid (sumN (pmul X) 0 = 0) := rfl
      clear hfull hmB hsl hS
      go_wp2
      go_loopw [29, 31] (fun a i wr => ∃ k : Nat, k ≤ X.length ∧ i = .int .i64 k ∧ a = .int .i64 ((S : Int) + sumN (pmul X) k) ∧ Below w21.heap.size w21 wr) (fun _ i _ => X.length - (intOf i).toNat)
      case atStart => exact ⟨0, by omega, by go_num, by rw [HP0S.out, Int.add_zero], Below.refl _ _⟩
      case round =>
        obtain ⟨k, hk, rfl, rfl, hbr⟩ := hrel
        obtain ⟨wo, rfl⟩ : ∃ wo : World, wo = wr := ⟨_, rfl⟩
        have y0 := keepc hbr y0
        have y1 := keepc hbr y1
        have hsp := HPS.out k hk
        by_cases hlt2 : k < X.length
        · obtain ⟨_, _, he, -, hc⟩ := HR21.out.below hbr
          cases he
          obtain ⟨bx, ox, uk, he2, x0, x1, hruk⟩ := hc k hlt2
          cases he2
          obtain ⟨ak, ck, rfl, -, -⟩ := hruk
          have hpk := HPL.out k hlt2
          have hpm := HPB.out k hlt2
          have hSN : Hid (sumN (pmul X) (k + 1) = sumN (pmul X) k + pmul X k) := rfl
          have hPM : Hid (pmul X k = timR X k * ((patR X k).length : Int)) := rfl
          rw [← patR_at hlt2] at x0
          rw [← timR_at hlt2] at x1
          obtain ⟨tk, htk⟩ : ∃ tk, timR X k = tk := ⟨_, rfl⟩
          obtain ⟨lk, hlk⟩ : ∃ lk, (patR X k).length = lk := ⟨_, rfl⟩
          obtain ⟨pm, hpmE⟩ : ∃ pm, pmul X k = pm := ⟨_, rfl⟩
          obtain ⟨V2, hV2⟩ : ∃ V2, sumN (pmul X) k = V2 := ⟨_, rfl⟩
          rw [hlk] at x0 hpk hPM
          rw [htk] at x1 hPM
          rw [hpmE] at hPM hpm hSN
          rw [hV2] at hSN hsp ⊢
          have hwm : IntKind.i64.wrap (tk * (lk : Int)) = pm := by rw [← hPM.out]; exact IntWalk.i64_in _ (by omega)
          have hin1 : (k : Int) < (X.length : Int) := by omega
          have hin2 : (0 : Int) ≤ (k : Int) := Int.natCast_nonneg _
          clear hc htk hlk hpmE hV2
          go_wp2_with fail
          go_quiet (fail)
          go_wp2_with fail
          go_roundw
          case rel => exact ⟨k + 1, by omega, by go_num, by rw [hSN.out, Int.add_assoc], hbr.drN _⟩
          case measure => simp [intOf]; omega
        · have hkX : X.length = k := by omega
          have hfin : (S : Int) + sumN (pmul X) k = (T.length : Int) := by rw [← hkX]; exact HLEN.out.symm
          rw [hfin]
          go_wp2
          go_ret
          exact ⟨by simp, BB21.tr hbr⟩
theorem own : ownKnob Try.prog.godebug = none := by kernel_rfl
theorem laidOut : laidOutB Try.prog = true := by kernel_rfl
set_option maxRecDepth 100000 in
theorem lifted (os : Os) (started : os.Started) (H : Type) (enc : TypeId × Value → H) :
    ReturnsInHanded {} Try.checked os 5 .any (Rows.fnRoutinesSpec.pre6 enc Try.prog Try.f5 Rows.fnRoutinesRow.domain false) (Rows.fnRoutinesSpec.post enc Try.prog Try.f5 false true false false) := by
  refine returnsInHanded_of_change (C := Try.checked) own started (by kernel_rfl) Try.func5
    (ChangeSpec.witness6 (enc := enc) (C := Try.checked) false ⟨#[], #[.slice none 0 0], []⟩ 8 (by kernel_rfl) (by kernel_rfl) (by kernel_rfl) (by kernel_rfl)) ?_
  intro W base args ds gs before hval0 hW hcnd _
  have hval : ∀ (j : Nat) t v, Try.f5.params[j]? = some t → args[j]? = some v → Value.okWide Try.prog W .any base t v := hval0
  have hW' := hW
  obtain ⟨p, q, hA0, hV, rfl, hfz, hnd⟩ := hW
  have hA : DataW.TrodAll enc Try.prog W 0 (fun _ => true) true Try.f5.params.toList args.toList ds p := hA0
  rw [Try.params5] at hA hval
  obtain ⟨v0, vs0, d0, ds0, p0, q0, hargs, rfl, rfl, h0, r0⟩ := trodAll_cons hA
  obtain ⟨rfl, rfl, rfl⟩ := trodAll_nil r0
  obtain rfl : args = #[v0] := by cases args; simp_all
  obtain ⟨rfl, rfl⟩ := trodVars_none hV
  have k0 := h0
  have lt0 : ∀ x ∈ p0, x.block < W.heap.size := by obtain ⟨m, hm⟩ := k0; exact DataW.trod_lt m _ _ _ hm
  have a0 := open_bytes (hval 0 22 v0 rfl rfl) h0
  clear hA0 hval0
  refine (walk v0 W a0).mono fun e W' ⟨he, bel⟩ => ?_
  subst he
  exact ⟨_, rfl, _, _, _, [], _, [], hW', trodAll_mk1 (shut_bool Try.underlying4 _), (trodAll_cons_mk (Below.trod laidOut (by kernel_rfl) (of_decide_eq_true (by kernel_rfl)) k0 bel lt0) trodAll_mk0), rfl, bel.frame _, fun h => by cases h⟩
theorem over : Rows.fnRoutinesRow.holds Try.pinned (OpenSpec.ofChange Rows.fnRoutinesSpec) :=
  OpenClaim.holds_of_wide 5 Try.f5 rfl rfl rfl rfl rfl rfl rfl ⟨rfl, rfl, rfl, rfl, rfl⟩ rfl rfl rfl rfl rfl (by kernel_rfl) Try.func5 (by kernel_rfl)
    (of_decide_eq_true (by kernel_rfl)) (by unfold Func.isWrapper; first | (rw [if_pos (by decide +kernel)]; kernel_rfl) | (rw [if_neg (by decide +kernel)]; exact ⟨rfl, rfl⟩))
    (fun os started H enc _ => lifted os started H enc)
theorem proved : Rows.FnRoutinesSaid := over
end fnRoutines
end Go.Proofs.Ytjjghmmpfnlpaaa
