/- The law FnBridges returns true for all slices of bytes. No condition. -/
import Derived.Test.YtpcaaohdlcoplaaBrD
import Derived.Test.YtpcaaohdlcoplaaDrS
namespace Go.Proofs.Ytpcaaohdlcoplaa
open Go.ChangeShapes Go.WideShapes Go.ChangeAt Go.RowKit
set_option linter.unusedVariables false
set_option linter.unusedSimpArgs false
namespace fnBridges
theorem loop_wk {a b : List Int} {h : Int} (hc : brC a b h = 0) : Wk h (stM a 0 h) (loopL a b h) (stM a 0 h) := by
  obtain ⟨⟨hva, hvb⟩, hh, ⟨hpa, hpb⟩, he⟩ := brC_ok hc
  have mA := stM_mem hva 0 hh hpa
  have mB := stM_mem hvb 0 hh hpb
  rw [← he] at mB
  unfold loopL bridgeL
  exact (((wk_pat hva hh hpa).append (short_wk hh mA mB)).append (wk_pat hvb hh hpb)).append (short_wk hh mB mA)
theorem loop_len (a b : List Int) (h : Int) : (loopL a b h).length = a.length + (bridgeL a b h).length + b.length + (bridgeL b a h).length := by
  unfold loopL
  simp only [List.length_append]
set_option maxHeartbeats 8000000 in
set_option maxRecDepth 100000 in
theorem walk (v0 : Value) (w : World) (a0 : Arg_bytes w v0) : Calls Try.prog 4 #[v0] w fun e w' => e = .returned (.bool true) ∧ Below w.heap.size w w' := by
  obtain ⟨bs, hb0⟩ := a0
  have HB0 := Lib.hid hb0
  obtain ⟨aa, ca, rfl, hla, -, -⟩ := hb0
  cases hlong : (decide ((bs.length : Int) > 3000) || decide (((0 : Nat) : Int) > 3000))
  rotate_left
  · go_enter Try.func4, Try.ntmps4
    go_wp2_with fail
    refine (c_laws_a2Long _ _ _ _ _ _ _ (by omega) (by omega)).mono ?_; rintro e w1 ⟨rfl, rfl⟩; rw [hlong]
    go_wp2
    go_ret
    exact ⟨rfl, by (repeat (first | (with_reducible assumption) | (with_reducible exact Below.refl _ _) | (with_reducible refine Below.setCell ?_ (by first | (simp; done) | (simp; omega)) _) | (with_reducible refine Below.al ?_ _) | (with_reducible refine Below.dr ?_) | (with_reducible refine Below.drN ?_ _) | (with_reducible refine Below.tr ?_ (by with_reducible assumption))))⟩
  go_enter Try.func4, Try.ntmps4
  go_wp2_with fail
  refine (c_laws_a2Long _ _ _ _ _ _ _ (by omega) (by omega)).mono ?_; rintro e w1 ⟨rfl, rfl⟩; rw [hlong]
  go_wp2_with fail
  refine (c_spec_A2Two bs _ _ HB0.out).mono ?_; rintro e w1 ⟨v1, v2, a, b, h, rfl, r1, r2, hbr, B1⟩
  obtain ⟨⟨hva, hvb⟩, hh, ⟨hpa, hpb⟩, he⟩ := brC_ok hbr
  have hla1 := (validP_iff.1 hva).1.2
  have hlb1 := (validP_iff.1 hvb).1.2
  have hbra : brC a a h = 0 := brC_mk hva hva hh (mxF_bd (by omega) hpa).2 (mxF_bd (by omega) hpa).2 rfl
  have hbrb : brC b b h = 0 := brC_mk hvb hvb hh (mxF_bd (by omega) hpb).2 (mxF_bd (by omega) hpb).2 rfl
  have hpr := props_bd hva hh hpa
  have mA := stM_mem hva 0 hh hpa
  have mB := stM_mem hvb 0 hh hpb
  rw [← he] at mB
  have mG := ground_mem hh hpr
  -- the plain facts
  have HEN : Hid (entryL a h = shortL h (groundI (propsP a)) (stM a 0 h)) := by unfold Hid entryL; rw [hbra]; rfl
  have HEX : Hid (exitL a h = shortL h (stM a 0 h) (groundI (propsP a))) := by unfold Hid exitL; rw [hbra]; rfl
  have HBR : Hid (bridgeX a b h = shortL h (stM a 0 h) (stM b 0 h)) := by unfold Hid bridgeX; rw [hbr]; rfl
  have HBB : Hid (bridgeX b a h = shortL h (stM b 0 h) (stM a 0 h)) := by unfold Hid bridgeX; rw [brC_swap hbr]; rfl
  have HR1x := Lib.hid (run_wk hh mG (short_wk hh mG mA))
  have HR2x := Lib.hid (run_wk hh mA (short_wk hh mA mG))
  have HR3x := Lib.hid (run_wk hh mA (short_wk hh mA mB))
  have HN1 := Lib.hid (short_nil hh mG mA)
  have HN2 := Lib.hid (short_nil hh mA mB)
  have hl1 := short_le hh mG mA
  have hl2 := short_le hh mA mG
  have hl3 := short_le hh mA mB
  have hl4 := short_le hh mB mA
  have HLL : Hid ((loopL a b h).length = a.length + (shortL h (stM a 0 h) (stM b 0 h)).length + b.length + (shortL h (stM b 0 h) (stM a 0 h)).length) := loop_len a b h
  have HLW := Lib.hid (loop_wk hbr)
  have HLC : Hid (loopC a b h = if (loopL a b h).length > 12 then 5 else 0) := by unfold Hid loopC; rw [if_pos hbr]
  have HLX : Hid (loopX a b h = if (loopL a b h).length > 12 then [] else loopL a b h) := by unfold Hid loopX; rw [if_pos hbr]
  have HRG : Hid (1 ≤ (loopL a b h).length → (loopL a b h).length ≤ 12 → validP (loopL a b h) = true ∧ propsP (loopL a b h) = propsP a) := fun h1 h2 => ring_ok hh mA HLW.out ⟨h1, h2⟩
  have HC := Lib.hid hbr
  have HCA := Lib.hid hbra
  have HCB := Lib.hid hbrb
  have HCS := Lib.hid (brC_swap hbr)
  have HVA := Lib.hid hva
  have HVB := Lib.hid hvb
  have HPA := Lib.hid hpa
  have HPB := Lib.hid hpb
  have hGb := mk_bd hh mG
  have hAb := mk_bd hh mA
  have hBb := mk_bd hh mB
  have HRA := Lib.hid r1
  have HRB := Lib.hid r2
  obtain ⟨ax, cx, rfl, -, -⟩ := r1
  obtain ⟨ay, cy, rfl, -, -⟩ := r2
  obtain ⟨G, hG⟩ : ∃ G, Hid (groundI (propsP a) = G) := ⟨_, Lib.hid rfl⟩
  obtain ⟨X, hX⟩ : ∃ X, Hid (stM a 0 h = X) := ⟨_, Lib.hid rfl⟩
  obtain ⟨Y, hY⟩ : ∃ Y, Hid (stM b 0 h = Y) := ⟨_, Lib.hid rfl⟩
  rw [hG.out, hX.out] at HEN HEX HR1x HR2x HN1 hl1 hl2
  rw [hX.out, hY.out] at HBR HBB HR3x HN2 hl3 hl4 HLL
  rw [hG.out] at hGb
  rw [hX.out] at hAb
  rw [hY.out] at hBb
  obtain ⟨L1, hL1⟩ : ∃ L, Hid (shortL h G X = L) := ⟨_, Lib.hid rfl⟩
  obtain ⟨L2, hL2⟩ : ∃ L, Hid (shortL h X G = L) := ⟨_, Lib.hid rfl⟩
  obtain ⟨L3, hL3⟩ : ∃ L, Hid (shortL h X Y = L) := ⟨_, Lib.hid rfl⟩
  obtain ⟨L4, hL4⟩ : ∃ L, Hid (shortL h Y X = L) := ⟨_, Lib.hid rfl⟩
  rw [hL1.out] at HEN HR1x HN1 hl1
  rw [hL2.out] at HEX HR2x hl2
  rw [hL3.out] at HBR HR3x HN2 hl3 HLL
  rw [hL4.out] at HBB hl4 HLL
  obtain ⟨LL, hLL⟩ : ∃ L, Hid (loopL a b h = L) := ⟨_, Lib.hid rfl⟩
  rw [hLL.out] at HLL HLC HLX HRG
  obtain ⟨P, hP⟩ : ∃ P, Hid (propsP a = P) := ⟨_, Lib.hid rfl⟩
  rw [hP.out] at hpr HRG
  have HGP : Hid (groundI P = G) := by unfold Hid; rw [← hP.out]; exact hG.out
  clear mA mB mG hva hvb hpa hpb he hbra hbrb hbr HLW
  go_wp2_with fail
  refine (c_spec_PropsOf a _ _ HRA.out HVA.out).mono ?_; rintro e w2 ⟨rfl, hb2⟩
  rw [hP.out]
  go_wp2_with fail
  refine (c_spec_GroundState P h _ hh hpr).mono ?_; rintro e w3 ⟨rfl, hb3⟩
  rw [HGP.out]
  have Q3 := hb2.tr hb3
  go_wp2_with fail
  obtain ⟨W4, hW4⟩ : ∃ W, W = w3.alloc (Obj.cells #[.int .i64 h, .int .i64 G] 35) := ⟨_, rfl⟩
  have g0 : W4.cell? ⟨w3.heap.size, 0, none⟩ = some (.int .i64 h) := by rw [hW4]; exact World.cell?_alloc_at _ _ _ _ rfl
  have g1 : W4.cell? ⟨w3.heap.size, 1, none⟩ = some (.int .i64 G) := by rw [hW4]; exact World.cell?_alloc_at _ _ _ _ rfl
  have hb4 : Below w3.heap.size w3 W4 := by rw [hW4]; exact (Below.refl _ _).al _
  rw [← hW4]
  clear hW4
  have Q4 := Q3.tr hb4
  refine (c_spec_StateOf a h _ _ (HRA.out.below Q4) HCA.out).mono ?_; rintro e w5 ⟨rfl, hb5⟩
  rw [hX.out]
  have g0 := keepc hb5 g0
  have g1 := keepc hb5 g1
  go_wp2_with fail
  obtain ⟨W6, hW6⟩ : ∃ W, W = w5.alloc (Obj.cells #[.int .i64 h, .int .i64 X] 35) := ⟨_, rfl⟩
  have x0 : W6.cell? ⟨w5.heap.size, 0, none⟩ = some (.int .i64 h) := by rw [hW6]; exact World.cell?_alloc_at _ _ _ _ rfl
  have x1 : W6.cell? ⟨w5.heap.size, 1, none⟩ = some (.int .i64 X) := by rw [hW6]; exact World.cell?_alloc_at _ _ _ _ rfl
  have hb6 : Below w5.heap.size w5 W6 := by rw [hW6]; exact (Below.refl _ _).al _
  rw [← hW6]
  clear hW6
  have Q6 := (Q4.tr hb5).tr hb6
  have g0 := keepc hb6 g0
  have g1 := keepc hb6 g1
  refine (c_spec_StateOf b h _ _ (HRB.out.below Q6) HCB.out).mono ?_; rintro e w7 ⟨rfl, hb7⟩
  rw [hY.out]
  have g0 := keepc hb7 g0
  have g1 := keepc hb7 g1
  have x0 := keepc hb7 x0
  have x1 := keepc hb7 x1
  go_wp2_with fail
  obtain ⟨W8, hW8⟩ : ∃ W, W = w7.alloc (Obj.cells #[.int .i64 h, .int .i64 Y] 35) := ⟨_, rfl⟩
  have y0 : W8.cell? ⟨w7.heap.size, 0, none⟩ = some (.int .i64 h) := by rw [hW8]; exact World.cell?_alloc_at _ _ _ _ rfl
  have y1 : W8.cell? ⟨w7.heap.size, 1, none⟩ = some (.int .i64 Y) := by rw [hW8]; exact World.cell?_alloc_at _ _ _ _ rfl
  have hb8 : Below w7.heap.size w7 W8 := by rw [hW8]; exact (Below.refl _ _).al _
  rw [← hW8]
  clear hW8
  have Q8 := (Q6.tr hb7).tr hb8
  have g0 := keepc hb8 g0
  have g1 := keepc hb8 g1
  have x0 := keepc hb8 x0
  have x1 := keepc hb8 x1
  refine (c_impl_EntryOf a h _ _ (HRA.out.below Q8)).mono ?_; rintro e w9 ⟨u1, rfl, o1, hb9⟩
  rw [HCA.out]
  rw [HEN.out] at o1
  have Q9 := Q8.tr hb9
  go_wp2_with fail
  refine (c_impl_ExitOf a h _ _ (HRA.out.below Q9)).mono ?_; rintro e w10 ⟨u2, rfl, o2, hb10⟩
  rw [HCA.out]
  rw [HEX.out] at o2
  have Q10 := Q9.tr hb10
  go_wp2_with fail
  refine (c_impl_BridgeOf a b h _ _ _ (HRA.out.below Q10) (HRB.out.below Q10)).mono ?_; rintro e w11 ⟨u3, rfl, o3, hb11⟩
  rw [HC.out]
  rw [HBR.out] at o3
  have Q11 := Q10.tr hb11
  go_wp2_with fail
  refine (c_impl_BridgeOf b a h _ _ _ (HRB.out.below Q11) (HRA.out.below Q11)).mono ?_; rintro e w12 ⟨u4, rfl, o4, hb12⟩
  rw [HCS.out]
  rw [HBB.out] at o4
  have Q12 := Q11.tr hb12
  have B912 := ((hb9.tr hb10).tr hb11).tr hb12
  have g0 := keepc B912 g0
  have g1 := keepc B912 g1
  have x0 := keepc B912 x0
  have x1 := keepc B912 x1
  have y0 := keepc B912 y0
  have y1 := keepc B912 y1
  have R1 := Lib.hid (((o1.rd.below hb10).below hb11).below hb12)
  have R2 := Lib.hid ((o2.rd.below hb11).below hb12)
  have R3 := Lib.hid (o3.rd.below hb12)
  have R4 := Lib.hid o4.rd
  obtain ⟨q1, c1, rfl, -, -⟩ := o1.rd
  obtain ⟨q2, c2, rfl, -, -⟩ := o2.rd
  obtain ⟨q3, c3, rfl, -, -⟩ := o3.rd
  obtain ⟨q4, c4, rfl, -, -⟩ := o4.rd
  clear o1 o2 o3 o4
  go_wp2_with fail
  refine (c_spec_RunThrows h G L1 _ _ R1.out).mono ?_; rintro e w13 ⟨rfl, hb13⟩
  rw [HR1x.out.1, HR1x.out.2.1, HR1x.out.2.2.1]
  have g0 := keepc hb13 g0
  have g1 := keepc hb13 g1
  have x0 := keepc hb13 x0
  have x1 := keepc hb13 x1
  have y0 := keepc hb13 y0
  have y1 := keepc hb13 y1
  have zx13 : w5.heap.size < w13.heap.size := World.block_lt_of_cell? _ _ x0
  have nx13 : ¬ w13.heap.size = w5.heap.size := by omega
  go_wp2_with fail
  obtain ⟨W14, hW14⟩ : ∃ W, W = w13.alloc (Obj.cells #[.int .i64 h, .int .i64 X] 35) := ⟨_, rfl⟩
  have s0 : W14.cell? ⟨w13.heap.size, 0, none⟩ = some (.int .i64 h) := by rw [hW14]; exact World.cell?_alloc_at _ _ _ _ rfl
  have s1 : W14.cell? ⟨w13.heap.size, 1, none⟩ = some (.int .i64 X) := by rw [hW14]; exact World.cell?_alloc_at _ _ _ _ rfl
  have hb14 : Below w13.heap.size w13 W14 := by rw [hW14]; exact (Below.refl _ _).al _
  rw [← hW14]
  clear hW14
  have B14 := hb13.tr hb14
  have g0 := keepc hb14 g0
  have g1 := keepc hb14 g1
  have x0 := keepc hb14 x0
  have x1 := keepc hb14 x1
  have y0 := keepc hb14 y0
  have y1 := keepc hb14 y1
  refine (c_spec_RunThrows h X L2 _ _ (R2.out.below B14)).mono ?_; rintro e w15 ⟨rfl, hb15⟩
  rw [HR2x.out.1, HR2x.out.2.1, HR2x.out.2.2.1]
  have g0 := keepc hb15 g0
  have g1 := keepc hb15 g1
  have x0 := keepc hb15 x0
  have x1 := keepc hb15 x1
  have y0 := keepc hb15 y0
  have y1 := keepc hb15 y1
  have s0 := keepc hb15 s0
  have s1 := keepc hb15 s1
  have zx15 : w5.heap.size < w15.heap.size := World.block_lt_of_cell? _ _ x0
  have nx15 : ¬ w15.heap.size = w5.heap.size := by omega
  go_wp2_with fail
  obtain ⟨W16, hW16⟩ : ∃ W, W = w15.alloc (Obj.cells #[.int .i64 h, .int .i64 G] 35) := ⟨_, rfl⟩
  have t0 : W16.cell? ⟨w15.heap.size, 0, none⟩ = some (.int .i64 h) := by rw [hW16]; exact World.cell?_alloc_at _ _ _ _ rfl
  have t1 : W16.cell? ⟨w15.heap.size, 1, none⟩ = some (.int .i64 G) := by rw [hW16]; exact World.cell?_alloc_at _ _ _ _ rfl
  have hb16 : Below w15.heap.size w15 W16 := by rw [hW16]; exact (Below.refl _ _).al _
  rw [← hW16]
  clear hW16
  have B16 := (B14.tr hb15).tr hb16
  have g0 := keepc hb16 g0
  have g1 := keepc hb16 g1
  have x0 := keepc hb16 x0
  have x1 := keepc hb16 x1
  have y0 := keepc hb16 y0
  have y1 := keepc hb16 y1
  have s0 := keepc hb16 s0
  have s1 := keepc hb16 s1
  refine (c_spec_RunThrows h X L3 _ _ (R3.out.below B16)).mono ?_; rintro e w17 ⟨rfl, hb17⟩
  rw [HR3x.out.1, HR3x.out.2.1, HR3x.out.2.2.1]
  have g0 := keepc hb17 g0
  have g1 := keepc hb17 g1
  have x0 := keepc hb17 x0
  have x1 := keepc hb17 x1
  have y0 := keepc hb17 y0
  have y1 := keepc hb17 y1
  have s0 := keepc hb17 s0
  have s1 := keepc hb17 s1
  have t0 := keepc hb17 t0
  have t1 := keepc hb17 t1
  have z1 : w3.heap.size < w17.heap.size := World.block_lt_of_cell? _ _ g0
  have z2 : w5.heap.size < w17.heap.size := World.block_lt_of_cell? _ _ x0
  have z3 : w7.heap.size < w17.heap.size := World.block_lt_of_cell? _ _ y0
  have z4 : w13.heap.size < w17.heap.size := World.block_lt_of_cell? _ _ s0
  have z5 : w15.heap.size < w17.heap.size := World.block_lt_of_cell? _ _ t0
  have ne1 : ¬ w17.heap.size = w3.heap.size := by omega
  have ne2 : ¬ w17.heap.size = w5.heap.size := by omega
  have ne3 : ¬ w17.heap.size = w7.heap.size := by omega
  have ne4 : ¬ w17.heap.size = w13.heap.size := by omega
  have ne5 : ¬ w17.heap.size = w15.heap.size := by omega
  have Q17 := Q12.tr (B16.tr hb17)
  have Q18 := Q17.al (Obj.cells #[.int .i64 h, .int .i64 Y] 35)
  go_wp2_with fail
  refine (c_impl_IsGround a h _ _ (HRA.out.below Q18) HVA.out hh HPA.out).mono ?_; rintro e w19 ⟨rfl, hb19⟩
  rw [hX.out, hP.out, HGP.out]
  have e1 : (X == G) = ((L1.length : Int) == 0) := by
    by_cases h0 : G = X
    · have := HN1.out.2 h0
      rw [h0, this]; simp
    · have h1 : ¬ L1.length = 0 := fun e => h0 (HN1.out.1 e)
      rw [beq_eq_false_iff_ne.2 (fun e => h0 e.symm), beq_eq_false_iff_ne.2 (by omega)]
  have HE1 := Lib.hid e1
  clear e1
  rw [HE1.out]
  have Q19 := Q18.tr hb19
  go_wp2_with fail
  refine (c_impl_CanFollow a b h _ _ _ (HRA.out.below Q19) (HRB.out.below Q19) HVA.out HVB.out hh HPA.out HPB.out).mono ?_; rintro e w20 ⟨rfl, hb20⟩
  rw [hX.out, hY.out]
  have e2 : (X == Y) = ((L3.length : Int) == 0) := by
    by_cases h0 : X = Y
    · have := HN2.out.2 h0
      rw [h0, this]; simp
    · have h1 : ¬ L3.length = 0 := fun e => h0 (HN2.out.1 e)
      rw [beq_eq_false_iff_ne.2 h0, beq_eq_false_iff_ne.2 (by omega)]
  have HE2 := Lib.hid e2
  clear e2
  rw [HE2.out]
  have Q20 := Q19.tr hb20
  go_wp2_with fail
  refine (c_impl_LoopOf a b h _ _ _ (HRA.out.below Q20) (HRB.out.below Q20)).mono ?_; rintro e w21 ⟨u5, rfl, o5, hb21⟩
  have Q21 := Q20.tr hb21
  by_cases hbig : LL.length > 12
  · rw [HLC.out, if_pos hbig]
    rw [HLX.out, if_pos hbig] at o5
    have hsum := HLL.out
    go_wp2
    all_goals first
      | (exfalso; omega)
      | (go_ret; exact ⟨by simp; omega, B1.tr Q21⟩)
  · rw [HLC.out, if_neg hbig]
    rw [HLX.out, if_neg hbig] at o5
    obtain ⟨hvl, hpl⟩ := HRG.out (by have := HLL.out; omega) (by omega)
    have HVL := Lib.hid hvl
    have HPL := Lib.hid hpl
    have R5 := Lib.hid o5.rd
    obtain ⟨q5, c5, rfl, -, -⟩ := o5.rd
    clear o5 hvl hpl
    go_wp2_with fail
    refine (c_spec_PropsOf LL _ _ R5.out HVL.out).mono ?_; rintro e w22 ⟨rfl, hb22⟩
    rw [HPL.out]
    have hsum := HLL.out
    go_wp2
    all_goals first
      | (exfalso; omega)
      | (go_ret; exact ⟨by simp; (try omega), B1.tr (Q21.tr hb22)⟩)
theorem own : ownKnob Try.prog.godebug = none := by kernel_rfl
theorem laidOut : laidOutB Try.prog = true := by kernel_rfl
set_option maxRecDepth 100000 in
theorem lifted (os : Os) (started : os.Started) (H : Type) (enc : TypeId × Value → H) :
    ReturnsInHanded {} Try.checked os 4 .any (Rows.fnBridgesSpec.pre6 enc Try.prog Try.f4 Rows.fnBridgesRow.domain false) (Rows.fnBridgesSpec.post enc Try.prog Try.f4 false true false false) := by
  refine returnsInHanded_of_change (C := Try.checked) own started (by kernel_rfl) Try.func4
    (ChangeSpec.witness6 (enc := enc) (C := Try.checked) false ⟨#[], #[.slice none 0 0], []⟩ 8 (by kernel_rfl) (by kernel_rfl) (by kernel_rfl) (by kernel_rfl)) ?_
  intro W base args ds gs before hval0 hW hcnd _
  have hval : ∀ (j : Nat) t v, Try.f4.params[j]? = some t → args[j]? = some v → Value.okWide Try.prog W .any base t v := hval0
  have hW' := hW
  obtain ⟨p, q, hA0, hV, rfl, hfz, hnd⟩ := hW
  have hA : DataW.TrodAll enc Try.prog W 0 (fun _ => true) true Try.f4.params.toList args.toList ds p := hA0
  rw [Try.params4] at hA hval
  obtain ⟨v0, vs0, d0, ds0, p0, q0, hargs, rfl, rfl, h0, r0⟩ := trodAll_cons hA
  obtain ⟨rfl, rfl, rfl⟩ := trodAll_nil r0
  obtain rfl : args = #[v0] := by cases args; simp_all
  obtain ⟨rfl, rfl⟩ := trodVars_none hV
  have k0 := h0
  have lt0 : ∀ x ∈ p0, x.block < W.heap.size := by obtain ⟨m, hm⟩ := k0; exact DataW.trod_lt m _ _ _ hm
  have a0 := open_bytes (hval 0 22 v0 rfl rfl) h0
  clear hA0 hval0
  refine (walk v0 W a0).mono fun e W' ⟨he, bel⟩ => ?_
  subst he
  exact ⟨_, rfl, _, _, _, [], _, [], hW', trodAll_mk1 (shut_bool Try.underlying4 _), (trodAll_cons_mk (Below.trod laidOut (by kernel_rfl) (of_decide_eq_true (by kernel_rfl)) k0 bel lt0) trodAll_mk0), rfl, bel.frame _, fun h => by cases h⟩
theorem over : Rows.fnBridgesRow.holds Try.pinned (OpenSpec.ofChange Rows.fnBridgesSpec) :=
  OpenClaim.holds_of_wide 4 Try.f4 rfl rfl rfl rfl rfl rfl rfl ⟨rfl, rfl, rfl, rfl, rfl⟩ rfl rfl rfl rfl rfl (by kernel_rfl) Try.func4 (by kernel_rfl)
    (of_decide_eq_true (by kernel_rfl)) (by unfold Func.isWrapper; first | (rw [if_pos (by decide +kernel)]; kernel_rfl) | (rw [if_neg (by decide +kernel)]; exact ⟨rfl, rfl⟩))
    (fun os started H enc _ => lifted os started H enc)
theorem proved : Rows.FnBridgesSaid := over
end fnBridges
end Go.Proofs.Ytpcaaohdlcoplaa
