/- The law FnLines returns true for all slices of bytes. The row lists strconv's tables as the program's text lays them (the card ties them). -/
import Derived.Test.YtioemkdapoombaaGreatDoorQLinesX35
import Derived.Test.YtioemkdapoombaaGreatDoorQLinesX37
import Derived.Test.YtioemkdapoombaaGreatDoorQLinesX39
import Derived.Test.YtioemkdapoombaaGreatDoorQLinesX40
import Derived.Test.YtioemkdapoombaaGreatDoorQLinesX43
import Derived.Test.YtioemkdapoombaaGreatDoorQLinesX44
import Derived.Test.YtioemkdapoombaaGreatDoorQLinesX45
namespace Go.Proofs.YtioemkdapoombaaGreatDoor
open Go.ChangeShapes Go.WideShapes Go.ChangeAt Go.RowKit
set_option linter.unusedSimpArgs false
set_option linter.unusedVariables false
namespace fnLines
theorem ck_zero {X : List ByteArray} (h : askC X = 0) : ckC X = 0 := by
  have hl : ¬ 60 < X.length := fun hl => by rw [ask_full hl] at h; cases h
  unfold ckC; rw [decide_eq_false hl]; rfl
theorem plL_sz {X : List ByteArray} {N : Nat} (h : ∀ s ∈ X, s.size ≤ N) : ∀ s ∈ plL X, s.size ≤ N := fun s hs => h s (List.mem_filter.1 hs).1
set_option maxHeartbeats 64000000 in
set_option maxRecDepth 100000 in
theorem walk (v0 : Value) (w : World) (hTab : Tab w) (a0 : Arg_bytes w v0) : Calls Tryz.prog 4 #[v0] w fun e w' => e = .returned (.bool true) ∧ Below w.heap.size w w' := by
  obtain ⟨bs, hb0⟩ := a0
  have HB0 := Lib.hid hb0
  have HTB := Lib.hid hTab
  clear hTab
  obtain ⟨aa, ca, rfl, hla, -, -⟩ := hb0
  cases hlong : decide ((bs.length : Int) > 4096)
  rotate_left
  · go_enter Tryz.func4, Tryz.ntmps4
    go_wp2_with fail
    refine (c_laws_f6big _ _ _ _ (by omega)).mono ?_; rintro e w1 ⟨rfl, rfl⟩; rw [hlong]
    go_wp2
    go_ret
    exact ⟨rfl, by (repeat (first | (with_reducible assumption) | (with_reducible exact Below.refl _ _) | (with_reducible refine Below.setCell ?_ (by first | (simp; done) | (simp; omega)) _) | (with_reducible refine Below.al ?_ _) | (with_reducible refine Below.dr ?_) | (with_reducible refine Below.drN ?_ _) | (with_reducible refine Below.tr ?_ (by with_reducible assumption))))⟩
  go_enter Tryz.func4, Tryz.ntmps4
  go_wp2_with fail
  refine (c_laws_f6big _ _ _ _ (by omega)).mono ?_; rintro e w0 ⟨rfl, rfl⟩; rw [hlong]
  have BB : Below w.heap.size w w := Below.refl _ _
  go_wp2_with fail
  refine (c_spec_DrawCheckedLines bs _ _ HB0.out HTB.out).mono ?_; rintro e w1 ⟨u, X, rfl, ho, hsz, hb1⟩
  have HX := Lib.hid ho
  have HZ : Hid (∀ s ∈ X, s.size ≤ 2000000) := Lib.hid (fun s hs => by have := hsz s hs; omega)
  obtain ⟨aX, cX, hu, -⟩ := ho.2
  obtain ⟨nX, hnX⟩ : ∃ n, X.length = n := ⟨_, rfl⟩
  rw [hnX] at hu
  subst hu
  clear hnX ho hsz
  obtain ⟨E, hE⟩ : ∃ E, Hid (ckC X = E) := ⟨_, Lib.hid rfl⟩
  obtain ⟨A, hA⟩ : ∃ E, Hid (ckA X = E) := ⟨_, Lib.hid rfl⟩
  obtain ⟨K, hK⟩ : ∃ E, Hid (ckK X = E) := ⟨_, Lib.hid rfl⟩
  obtain ⟨C, hC⟩ : ∃ E, Hid (askC X = E) := ⟨_, Lib.hid rfl⟩
  obtain ⟨H, hH⟩ : ∃ E, Hid (rpH X = E) := ⟨_, Lib.hid rfl⟩
  obtain ⟨M, hM⟩ : ∃ E, Hid (rpM X = E) := ⟨_, Lib.hid rfl⟩
  obtain ⟨N, hN⟩ : ∃ E, Hid (rpN X = E) := ⟨_, Lib.hid rfl⟩
  obtain ⟨T, hT⟩ : ∃ E, Hid (thL X = E) := ⟨_, Lib.hid rfl⟩
  obtain ⟨nT, hnT⟩ : ∃ n, Hid (T.length = n) := ⟨_, Lib.hid rfl⟩
  obtain ⟨D, hD⟩ : ∃ E, Hid (ckdC X = E) := ⟨_, Lib.hid rfl⟩
  obtain ⟨L, hL⟩ : ∃ E, Hid (ckL X = E) := ⟨_, Lib.hid rfl⟩
  obtain ⟨nL, hnL⟩ : ∃ n, Hid (L.length = n) := ⟨_, Lib.hid rfl⟩
  obtain ⟨P, hP⟩ : ∃ E, Hid ((bif C == 0 then plL X else []) = E) := ⟨_, Lib.hid rfl⟩
  obtain ⟨nP, hnP⟩ : ∃ n, Hid (P.length = n) := ⟨_, Lib.hid rfl⟩
  have tE : (E != E) = false := by simp
  have tA : (A != A) = false := by simp
  have tK : (K != K) = false := by simp
  have tC : (C != C) = false := by simp
  have tN : (N != N) = false := by simp
  have tD : (D != D) = false := by simp
  replace BB := BB.tr hb1
  clear hb1
  go_wp2_with fail
  refine (c_impl_CheckLines X _ _ HX.out HZ.out (tab_below HTB.out BB)).mono ?_; rintro e w2 ⟨rfl, hb2⟩
  rw [hA.out, hK.out, hE.out]
  replace HX := Lib.hid (HX.out.below hb2)
  replace BB := BB.tr hb2
  clear hb2
  go_wp2_with fail
  refine (c_spec_CheckLines X _ _ HX.out HZ.out (tab_below HTB.out BB)).mono ?_; rintro e w3 ⟨rfl, hb3⟩
  rw [hA.out, hK.out, hE.out]
  replace HX := Lib.hid (HX.out.below hb3)
  replace BB := BB.tr hb3
  clear hb3
  go_wp2_with fail
  refine (c_impl_ReplayLines X _ _ HX.out HZ.out (tab_below HTB.out BB)).mono ?_; rintro e w4 ⟨rfl, hb4⟩
  rw [hH.out, hM.out, hN.out, hC.out]
  replace HX := Lib.hid (HX.out.below hb4)
  replace BB := BB.tr hb4
  clear hb4
  have TF := VBox.new w4 25 (.int .i64 H) (.int .i64 M)
  have ha : Below w4.heap.size w4 (w4.alloc (Obj.cells #[.int .i64 H, .int .i64 M] 25)) := (Below.refl _ _).al _
  go_wp2_with fail
  have cF0 := TF.c0
  have cF1 := TF.c1
  replace HX := Lib.hid (HX.out.below ha)
  replace BB := BB.tr ha
  generalize (w4.alloc (Obj.cells #[.int .i64 H, .int .i64 M] 25)) = x4 at *
  obtain ⟨bF, hbe⟩ : ∃ b, w4.heap.size = b := ⟨_, rfl⟩
  rw [hbe] at TF cF0 cF1 ⊢
  clear ha hbe
  refine (c_spec_ReplayLines X _ _ HX.out HZ.out (tab_below HTB.out BB)).mono ?_; rintro e w5 ⟨rfl, hb5⟩
  rw [hH.out, hM.out, hN.out, hC.out]
  replace TF := TF.below hb5
  replace cF0 := TF.c0
  replace cF1 := TF.c1
  replace HX := Lib.hid (HX.out.below hb5)
  replace BB := BB.tr hb5
  clear hb5
  have TG := VBox.new w5 25 (.int .i64 H) (.int .i64 M)
  have ha : Below w5.heap.size w5 (w5.alloc (Obj.cells #[.int .i64 H, .int .i64 M] 25)) := (Below.refl _ _).al _
  have dF0 := keepc ha cF0
  have dF1 := keepc ha cF1
  go_wp2_with fail
  clear dF0 dF1
  have cG0 := TG.c0
  have cG1 := TG.c1
  replace TF := TF.below ha
  replace cF0 := TF.c0
  replace cF1 := TF.c1
  replace HX := Lib.hid (HX.out.below ha)
  replace BB := BB.tr ha
  generalize (w5.alloc (Obj.cells #[.int .i64 H, .int .i64 M] 25)) = x5 at *
  obtain ⟨bG, hbe⟩ : ∃ b, w5.heap.size = b := ⟨_, rfl⟩
  rw [hbe] at TG cG0 cG1 ⊢
  clear ha hbe
  refine (c_impl_ThrowsOf X _ _ HX.out HZ.out (tab_below HTB.out BB)).mono ?_; rintro e w6 ⟨r1, rfl, ho, hb6⟩
  rw [hC.out]
  rw [hT.out] at ho
  have HU1 := Lib.hid ho.rd
  obtain ⟨a1, c1, hr, -, -⟩ := ho.rd
  rw [hnT.out] at hr
  subst hr
  clear ho
  replace TF := TF.below hb6
  replace TG := TG.below hb6
  replace cF0 := TF.c0
  replace cF1 := TF.c1
  replace cG0 := TG.c0
  replace cG1 := TG.c1
  replace HX := Lib.hid (HX.out.below hb6)
  replace BB := BB.tr hb6
  clear hb6
  go_wp2_with fail
  refine (c_spec_ThrowsOf X _ _ HX.out HZ.out (tab_below HTB.out BB)).mono ?_; rintro e w7 ⟨r2, rfl, ho, hb7⟩
  rw [hC.out]
  rw [hT.out] at ho
  have HU2 := Lib.hid ho.rd
  obtain ⟨a2, c2, hr, -, -⟩ := ho.rd
  rw [hnT.out] at hr
  subst hr
  clear ho
  replace TF := TF.below hb7
  replace TG := TG.below hb7
  replace cF0 := TF.c0
  replace cF1 := TF.c1
  replace cG0 := TG.c0
  replace cG1 := TG.c1
  replace HX := Lib.hid (HX.out.below hb7)
  replace HU1 := Lib.hid (HU1.out.below hb7)
  replace BB := BB.tr hb7
  clear hb7
  go_wp2_with fail
  refine (c_impl_CheckedLines X _ _ HX.out HZ.out (tab_below HTB.out BB)).mono ?_; rintro e w8 ⟨r3, rfl, ho, hb8⟩
  rw [hD.out]
  rw [hL.out] at ho
  have HT3 := Lib.hid (OwnRow.rdtc ho)
  obtain ⟨a3, c3, hr, -⟩ := (OwnRow.rdtc ho).2
  rw [hnL.out] at hr
  subst hr
  clear ho
  replace TF := TF.below hb8
  replace TG := TG.below hb8
  replace cF0 := TF.c0
  replace cF1 := TF.c1
  replace cG0 := TG.c0
  replace cG1 := TG.c1
  replace HX := Lib.hid (HX.out.below hb8)
  replace HU1 := Lib.hid (HU1.out.below hb8)
  replace HU2 := Lib.hid (HU2.out.below hb8)
  replace BB := BB.tr hb8
  clear hb8
  go_wp2_with fail
  refine (c_spec_CheckedLines X _ _ HX.out HZ.out (tab_below HTB.out BB)).mono ?_; rintro e w9 ⟨r4, rfl, ho, hb9⟩
  rw [hD.out]
  rw [hL.out] at ho
  have HT4 := Lib.hid (OwnRow.rdtc ho)
  obtain ⟨a4, c4, hr, -⟩ := (OwnRow.rdtc ho).2
  rw [hnL.out] at hr
  subst hr
  clear ho
  replace TF := TF.below hb9
  replace TG := TG.below hb9
  replace cF0 := TF.c0
  replace cF1 := TF.c1
  replace cG0 := TG.c0
  replace cG1 := TG.c1
  replace HX := Lib.hid (HX.out.below hb9)
  replace HU1 := Lib.hid (HU1.out.below hb9)
  replace HU2 := Lib.hid (HU2.out.below hb9)
  replace HT3 := Lib.hid (HT3.out.below hb9)
  replace BB := BB.tr hb9
  clear hb9
  go_wp2_with fail
  refine (c_impl_PlainLines X _ _ HX.out HZ.out (tab_below HTB.out BB)).mono ?_; rintro e w10 ⟨r5, rfl, ho, hb10⟩
  rw [hC.out]
  rw [hC.out, hP.out] at ho
  have HT5 := Lib.hid (OwnRow.rdtc ho)
  obtain ⟨a5, c5, hr, -⟩ := (OwnRow.rdtc ho).2
  rw [hnP.out] at hr
  subst hr
  clear ho
  replace TF := TF.below hb10
  replace TG := TG.below hb10
  replace cF0 := TF.c0
  replace cF1 := TF.c1
  replace cG0 := TG.c0
  replace cG1 := TG.c1
  replace HX := Lib.hid (HX.out.below hb10)
  replace HU1 := Lib.hid (HU1.out.below hb10)
  replace HU2 := Lib.hid (HU2.out.below hb10)
  replace HT3 := Lib.hid (HT3.out.below hb10)
  replace HT4 := Lib.hid (HT4.out.below hb10)
  replace BB := BB.tr hb10
  clear hb10
  go_wp2_with fail
  refine (c_spec_PlainLines X _ _ HX.out HZ.out (tab_below HTB.out BB)).mono ?_; rintro e w11 ⟨r6, rfl, ho, hb11⟩
  rw [hC.out]
  rw [hC.out, hP.out] at ho
  have HT6 := Lib.hid (OwnRow.rdtc ho)
  obtain ⟨a6, c6, hr, -⟩ := (OwnRow.rdtc ho).2
  rw [hnP.out] at hr
  subst hr
  clear ho
  replace TF := TF.below hb11
  replace TG := TG.below hb11
  replace cF0 := TF.c0
  replace cF1 := TF.c1
  replace cG0 := TG.c0
  replace cG1 := TG.c1
  replace HX := Lib.hid (HX.out.below hb11)
  replace HU1 := Lib.hid (HU1.out.below hb11)
  replace HU2 := Lib.hid (HU2.out.below hb11)
  replace HT3 := Lib.hid (HT3.out.below hb11)
  replace HT4 := Lib.hid (HT4.out.below hb11)
  replace HT5 := Lib.hid (HT5.out.below hb11)
  replace BB := BB.tr hb11
  clear hb11
  go_wp2_with fail
  refine (c_spec_DrawStepName bs _ _ (HB0.out.below BB)).mono ?_; rintro e w12 ⟨k, rfl, hk, hb12⟩
  clear hk
  replace TF := TF.below hb12
  replace TG := TG.below hb12
  replace cF0 := TF.c0
  replace cF1 := TF.c1
  replace cG0 := TG.c0
  replace cG1 := TG.c1
  replace HX := Lib.hid (HX.out.below hb12)
  replace HU1 := Lib.hid (HU1.out.below hb12)
  replace HU2 := Lib.hid (HU2.out.below hb12)
  replace HT3 := Lib.hid (HT3.out.below hb12)
  replace HT4 := Lib.hid (HT4.out.below hb12)
  replace HT5 := Lib.hid (HT5.out.below hb12)
  replace HT6 := Lib.hid (HT6.out.below hb12)
  replace BB := BB.tr hb12
  clear hb12
  have qn := fun w => neState w H M H M
  rw [decide_eq_true (⟨rfl, rfl⟩ : H = H ∧ M = M), Bool.not_true] at qn
  have gs := gState
  go_wp2_with fail
  refine (c_laws_f6ints T _ _ _ HU1.out HU2.out).mono ?_; rintro e w13 ⟨rfl, hb13⟩
  replace TF := TF.below hb13
  replace TG := TG.below hb13
  replace cF0 := TF.c0
  replace cF1 := TF.c1
  replace cG0 := TG.c0
  replace cG1 := TG.c1
  replace HX := Lib.hid (HX.out.below hb13)
  replace HU1 := Lib.hid (HU1.out.below hb13)
  replace HU2 := Lib.hid (HU2.out.below hb13)
  replace HT3 := Lib.hid (HT3.out.below hb13)
  replace HT4 := Lib.hid (HT4.out.below hb13)
  replace HT5 := Lib.hid (HT5.out.below hb13)
  replace HT6 := Lib.hid (HT6.out.below hb13)
  replace BB := BB.tr hb13
  clear hb13
  go_wp2_with fail
  refine (c_laws_f6texts L _ _ _ HT3.out.1 HT4.out.1).mono ?_; rintro e w14 ⟨rfl, hb14⟩
  replace TF := TF.below hb14
  replace TG := TG.below hb14
  replace cF0 := TF.c0
  replace cF1 := TF.c1
  replace cG0 := TG.c0
  replace cG1 := TG.c1
  replace HX := Lib.hid (HX.out.below hb14)
  replace HU1 := Lib.hid (HU1.out.below hb14)
  replace HU2 := Lib.hid (HU2.out.below hb14)
  replace HT3 := Lib.hid (HT3.out.below hb14)
  replace HT4 := Lib.hid (HT4.out.below hb14)
  replace HT5 := Lib.hid (HT5.out.below hb14)
  replace HT6 := Lib.hid (HT6.out.below hb14)
  replace BB := BB.tr hb14
  clear hb14
  go_wp2_with fail
  refine (c_laws_f6texts P _ _ _ HT5.out.1 HT6.out.1).mono ?_; rintro e w15 ⟨rfl, hb15⟩
  replace TF := TF.below hb15
  replace TG := TG.below hb15
  replace cF0 := TF.c0
  replace cF1 := TF.c1
  replace cG0 := TG.c0
  replace cG1 := TG.c1
  replace HX := Lib.hid (HX.out.below hb15)
  replace HU1 := Lib.hid (HU1.out.below hb15)
  replace HU2 := Lib.hid (HU2.out.below hb15)
  replace HT3 := Lib.hid (HT3.out.below hb15)
  replace HT4 := Lib.hid (HT4.out.below hb15)
  replace HT5 := Lib.hid (HT5.out.below hb15)
  replace HT6 := Lib.hid (HT6.out.below hb15)
  replace BB := BB.tr hb15
  clear hb15
  obtain ⟨sk, hsk⟩ : ∃ s, Hid (stepName k = s) := ⟨_, Lib.hid rfl⟩
  go_wp2_with fail
  refine (c_impl_StepName k _).mono ?_; rintro e w16 ⟨rfl, hb16⟩
  rw [hsk.out]
  replace TF := TF.below hb16
  replace TG := TG.below hb16
  replace cF0 := TF.c0
  replace cF1 := TF.c1
  replace cG0 := TG.c0
  replace cG1 := TG.c1
  replace HX := Lib.hid (HX.out.below hb16)
  replace HU1 := Lib.hid (HU1.out.below hb16)
  replace HU2 := Lib.hid (HU2.out.below hb16)
  replace HT3 := Lib.hid (HT3.out.below hb16)
  replace HT4 := Lib.hid (HT4.out.below hb16)
  replace HT5 := Lib.hid (HT5.out.below hb16)
  replace HT6 := Lib.hid (HT6.out.below hb16)
  replace BB := BB.tr hb16
  clear hb16
  go_wp2_with fail
  refine (c_spec_StepName k _).mono ?_; rintro e w17 ⟨rfl, hb17⟩
  rw [hsk.out]
  replace TF := TF.below hb17
  replace TG := TG.below hb17
  replace cF0 := TF.c0
  replace cF1 := TF.c1
  replace cG0 := TG.c0
  replace cG1 := TG.c1
  replace HX := Lib.hid (HX.out.below hb17)
  replace HU1 := Lib.hid (HU1.out.below hb17)
  replace HU2 := Lib.hid (HU2.out.below hb17)
  replace HT3 := Lib.hid (HT3.out.below hb17)
  replace HT4 := Lib.hid (HT4.out.below hb17)
  replace HT5 := Lib.hid (HT5.out.below hb17)
  replace HT6 := Lib.hid (HT6.out.below hb17)
  replace BB := BB.tr hb17
  clear hb17
  obtain ⟨sK, hsK⟩ : ∃ s, Hid (stepName K = s) := ⟨_, Lib.hid rfl⟩
  have tS : (sK.toList == []) = false := by rw [← hsK.out, ← hK.out]; exact step_tl (ckK_rng X)
  have ts : (sk.toList != sk.toList) = false := by simp
  clear qn HU2 HT4 HT6 TG cG0 cG1
  by_cases hC0 : C = 0
  rotate_left
  · have zC : (C == 0) = false := beq_eq_false_iff_ne.2 hC0
    have zN : (C != 0) = true := by simpa using hC0
    by_cases hE0 : E = 0
    · have zA : (A == -1) = false := beq_eq_false_iff_ne.2 (fun h => hC0 (by rw [← hC.out]; exact (ck_iff (hE.out.trans hE0)).1 (hA.out.trans h)))
      subst hE0
      clear hC0
      go_wp2_with fail
      refine (c_impl_StepName K _).mono ?_; rintro e w18 ⟨rfl, hb18⟩
      rw [hsK.out]
      replace TF := TF.below hb18
      replace cF0 := TF.c0
      replace cF1 := TF.c1
      replace HX := Lib.hid (HX.out.below hb18)
      replace HU1 := Lib.hid (HU1.out.below hb18)
      replace HT3 := Lib.hid (HT3.out.below hb18)
      replace HT5 := Lib.hid (HT5.out.below hb18)
      replace BB := BB.tr hb18
      clear hb18
      go_wp2
      go_ret
      exact ⟨rfl, BB⟩
    · have zE : (E == 0) = false := beq_eq_false_iff_ne.2 hE0
      clear hC0 hE0
      go_wp2_with fail
      refine (c_impl_StepName K _).mono ?_; rintro e w18 ⟨rfl, hb18⟩
      rw [hsK.out]
      replace TF := TF.below hb18
      replace cF0 := TF.c0
      replace cF1 := TF.c1
      replace HX := Lib.hid (HX.out.below hb18)
      replace HU1 := Lib.hid (HU1.out.below hb18)
      replace HT3 := Lib.hid (HT3.out.below hb18)
      replace HT5 := Lib.hid (HT5.out.below hb18)
      replace BB := BB.tr hb18
      clear hb18
      go_wp2
      go_ret
      exact ⟨rfl, BB⟩
  subst hC0
  obtain rfl : (0 : Int) = E := (ck_zero hC.out).symm.trans hE.out
  obtain rfl : (-1 : Int) = A := ((ck_iff hE.out).2 hC.out).symm.trans hA.out
  have hP2 : plL X = P := hP.out
  clear hP
  obtain ⟨⟨f1, f2, f3, f4⟩, f5, f6, f7⟩ := lines_facts hC.out
  rw [hH.out] at f2
  rw [hM.out] at f3
  rw [hN.out] at f4 f5
  rw [hP2] at f1 f2 f3 f4
  rw [hT.out, hnT.out] at f5
  rw [hD.out] at f6 f7
  rw [hL.out, hH.out, hM.out, hN.out, hP2] at f7
  have ZP : Hid (∀ s ∈ P, s.size ≤ 2000000) := Lib.hid (by rw [← hP2]; exact plL_sz HZ.out)
  have ZL : Hid (∀ s ∈ L, s.size ≤ 2000000) := Lib.hid (by rw [← hL.out]; exact ckL_szN (by omega) HZ.out)
  have F1 := Lib.hid f1
  have F2 := Lib.hid f2
  have F3 := Lib.hid f3
  have F4 := Lib.hid f4
  have F7 := Lib.hid f7
  have F6 := Lib.hid f6
  subst f5
  clear f1 f2 f3 f4 f6 f7 hP2
  have qn := fun w => neState w H M H M
  rw [decide_eq_true (⟨rfl, rfl⟩ : H = H ∧ M = M), Bool.not_true] at qn
  have qs := fun w => eqlState w H M H M
  rw [decide_eq_true (⟨rfl, rfl⟩ : H = H ∧ M = M)] at qs
  have tn : ((nT : Int) == (nT : Int)) = true := beq_self_eq_true _
  go_wp2_with fail
  refine (c_impl_StepName K _).mono ?_; rintro e w18 ⟨rfl, hb18⟩
  rw [hsK.out]
  replace TF := TF.below hb18
  replace cF0 := TF.c0
  replace cF1 := TF.c1
  replace HX := Lib.hid (HX.out.below hb18)
  replace HU1 := Lib.hid (HU1.out.below hb18)
  replace HT3 := Lib.hid (HT3.out.below hb18)
  replace HT5 := Lib.hid (HT5.out.below hb18)
  replace BB := BB.tr hb18
  clear hb18
  go_wp2_with fail
  refine (c_impl_ReplayLines P _ _ HT5.out ZP.out (tab_below HTB.out BB)).mono ?_; rintro e w19 ⟨rfl, hb19⟩
  rw [F1.out, F2.out, F3.out, F4.out]
  replace TF := TF.below hb19
  replace cF0 := TF.c0
  replace cF1 := TF.c1
  replace HX := Lib.hid (HX.out.below hb19)
  replace HU1 := Lib.hid (HU1.out.below hb19)
  replace HT3 := Lib.hid (HT3.out.below hb19)
  replace HT5 := Lib.hid (HT5.out.below hb19)
  replace BB := BB.tr hb19
  clear hb19
  by_cases hD0 : D = 0
  rotate_left
  · obtain rfl : D = 5 := F6.out.resolve_left hD0
    clear hD0
    have TI := VBox.new w19 25 (.int .i64 H) (.int .i64 M)
    have ha : Below w19.heap.size w19 (w19.alloc (Obj.cells #[.int .i64 H, .int .i64 M] 25)) := (Below.refl _ _).al _
    have dF0 := keepc ha cF0
    have dF1 := keepc ha cF1
    go_wp2_with fail
    clear dF0 dF1
    have cI0 := TI.c0
    have cI1 := TI.c1
    replace TF := TF.below ha
    replace cF0 := TF.c0
    replace cF1 := TF.c1
    replace HX := Lib.hid (HX.out.below ha)
    replace HU1 := Lib.hid (HU1.out.below ha)
    replace HT3 := Lib.hid (HT3.out.below ha)
    replace HT5 := Lib.hid (HT5.out.below ha)
    replace BB := BB.tr ha
    generalize (w19.alloc (Obj.cells #[.int .i64 H, .int .i64 M] 25)) = x19 at *
    obtain ⟨bI, hbe⟩ : ∃ b, w19.heap.size = b := ⟨_, rfl⟩
    rw [hbe] at TI cI0 cI1 ⊢
    clear ha hbe
    try go_wp2
    go_ret
    exact ⟨rfl, BB⟩
  subst hD0
  obtain ⟨⟨g1, g2, g3, g4⟩, g5⟩ := F7.out rfl
  have G1 := Lib.hid g1
  have G2 := Lib.hid g2
  have G3 := Lib.hid g3
  have G4 := Lib.hid g4
  have G5 := Lib.hid g5
  clear g1 g2 g3 g4 g5
  have TI := VBox.new w19 25 (.int .i64 H) (.int .i64 M)
  have ha : Below w19.heap.size w19 (w19.alloc (Obj.cells #[.int .i64 H, .int .i64 M] 25)) := (Below.refl _ _).al _
  have dF0 := keepc ha cF0
  have dF1 := keepc ha cF1
  go_wp2_with fail
  clear dF0 dF1
  have cI0 := TI.c0
  have cI1 := TI.c1
  replace TF := TF.below ha
  replace cF0 := TF.c0
  replace cF1 := TF.c1
  replace HX := Lib.hid (HX.out.below ha)
  replace HU1 := Lib.hid (HU1.out.below ha)
  replace HT3 := Lib.hid (HT3.out.below ha)
  replace HT5 := Lib.hid (HT5.out.below ha)
  replace BB := BB.tr ha
  generalize (w19.alloc (Obj.cells #[.int .i64 H, .int .i64 M] 25)) = x19 at *
  obtain ⟨bI, hbe⟩ : ∃ b, w19.heap.size = b := ⟨_, rfl⟩
  rw [hbe] at TI cI0 cI1 ⊢
  clear ha hbe
  refine (c_impl_ReplayLines L _ _ HT3.out ZL.out (tab_below HTB.out BB)).mono ?_; rintro e w20 ⟨rfl, hb20⟩
  rw [G1.out, G2.out, G3.out, G4.out]
  replace TF := TF.below hb20
  replace TI := TI.below hb20
  replace cF0 := TF.c0
  replace cF1 := TF.c1
  replace cI0 := TI.c0
  replace cI1 := TI.c1
  replace HX := Lib.hid (HX.out.below hb20)
  replace HU1 := Lib.hid (HU1.out.below hb20)
  replace HT3 := Lib.hid (HT3.out.below hb20)
  replace HT5 := Lib.hid (HT5.out.below hb20)
  replace BB := BB.tr hb20
  clear hb20
  have TJ := VBox.new w20 25 (.int .i64 H) (.int .i64 M)
  have ha : Below w20.heap.size w20 (w20.alloc (Obj.cells #[.int .i64 H, .int .i64 M] 25)) := (Below.refl _ _).al _
  have dF0 := keepc ha cF0
  have dF1 := keepc ha cF1
  have dI0 := keepc ha cI0
  have dI1 := keepc ha cI1
  go_wp2_with fail
  clear dF0 dF1 dI0 dI1
  have cJ0 := TJ.c0
  have cJ1 := TJ.c1
  replace TF := TF.below ha
  replace TI := TI.below ha
  replace cF0 := TF.c0
  replace cF1 := TF.c1
  replace cI0 := TI.c0
  replace cI1 := TI.c1
  replace HX := Lib.hid (HX.out.below ha)
  replace HU1 := Lib.hid (HU1.out.below ha)
  replace HT3 := Lib.hid (HT3.out.below ha)
  replace HT5 := Lib.hid (HT5.out.below ha)
  replace BB := BB.tr ha
  generalize (w20.alloc (Obj.cells #[.int .i64 H, .int .i64 M] 25)) = x20 at *
  obtain ⟨bJ, hbe⟩ : ∃ b, w20.heap.size = b := ⟨_, rfl⟩
  rw [hbe] at TJ cJ0 cJ1 ⊢
  clear ha hbe
  refine (c_impl_PlainLines L _ _ HT3.out ZL.out (tab_below HTB.out BB)).mono ?_; rintro e w21 ⟨r7, rfl, ho, hb21⟩
  rw [G1.out]
  rw [G1.out] at ho
  rw [show (bif (0 : Int) == 0 then plL L else []) = P from G5.out] at ho
  have HT7 := Lib.hid (OwnRow.rdtc ho)
  obtain ⟨a7, c7, hr, -⟩ := (OwnRow.rdtc ho).2
  rw [hnP.out] at hr
  subst hr
  clear ho
  replace TF := TF.below hb21
  replace TI := TI.below hb21
  replace TJ := TJ.below hb21
  replace cF0 := TF.c0
  replace cF1 := TF.c1
  replace cI0 := TI.c0
  replace cI1 := TI.c1
  replace cJ0 := TJ.c0
  replace cJ1 := TJ.c1
  replace HX := Lib.hid (HX.out.below hb21)
  replace HU1 := Lib.hid (HU1.out.below hb21)
  replace HT3 := Lib.hid (HT3.out.below hb21)
  replace HT5 := Lib.hid (HT5.out.below hb21)
  replace BB := BB.tr hb21
  clear hb21
  go_wp2_with fail
  refine (c_laws_f6texts P _ _ _ HT7.out.1 HT5.out.1).mono ?_; rintro e w22 ⟨rfl, hb22⟩
  replace TF := TF.below hb22
  replace TI := TI.below hb22
  replace TJ := TJ.below hb22
  replace cF0 := TF.c0
  replace cF1 := TF.c1
  replace cI0 := TI.c0
  replace cI1 := TI.c1
  replace cJ0 := TJ.c0
  replace cJ1 := TJ.c1
  replace HX := Lib.hid (HX.out.below hb22)
  replace HU1 := Lib.hid (HU1.out.below hb22)
  replace HT3 := Lib.hid (HT3.out.below hb22)
  replace HT5 := Lib.hid (HT5.out.below hb22)
  replace HT7 := Lib.hid (HT7.out.below hb22)
  replace BB := BB.tr hb22
  clear hb22
  go_wp2
  go_ret
  exact ⟨rfl, BB⟩
theorem own : ownKnob Tryz.prog.godebug = none := by kernel_rfl
theorem laidOut : laidOutB Tryz.prog = true := by kernel_rfl
theorem door_met (os : Os) (args : Array Value) : laidMetH Tryz.prog Rows.fnLinesRow.laid ((World.doorLaid Tryz.prog 24 os).forCall (fun _ _ => 0) ⟨#[], args, []⟩).memory :=
  laidMetH_of_parts3 (fuel := 8) (laidMet_of_run' 8 (by kernel_rfl) (by kernel_rfl)) (by kernel_rfl) (by kernel_rfl)
set_option maxRecDepth 100000 in
theorem lifted (os : Os) (started : os.Started) (H : Type) (enc : TypeId × Value → H) :
    ReturnsInHanded {} Tryz.checked os 4 .any (fun w args => (Rows.fnLinesSpec.pre enc Tryz.prog Tryz.f4 [] false w args ∧ laidMetH Tryz.prog Rows.fnLinesRow.laid w) ∧ sizedMet enc Tryz.prog Tryz.f4 (OpenSpec.ofChange Rows.fnLinesSpec) false w args)
      (Rows.fnLinesSpec.post enc Tryz.prog Tryz.f4 false true false false) := by
  refine returnsInHanded_of_change_and (C := Tryz.checked) (X := fun w _ => laidMetH Tryz.prog Rows.fnLinesRow.laid w) (fun _ _ _ hh h => h.of_heap hh) own started (by kernel_rfl) Tryz.func4
    (ChangeSpec.witness_shaped (enc := enc) (C := Tryz.checked) (os := os) (X := fun w _ => laidMetH Tryz.prog Rows.fnLinesRow.laid w) false (World.doorLaid Tryz.prog 24 os) #[.slice none 0 0] 8 rfl (World.shaped_of_RefB (by kernel_rfl) (by kernel_rfl)) (by kernel_rfl) (by kernel_rfl) (by kernel_rfl) (door_met os _)) ?_
  intro W base args ds gs before hval0 hW _ _ hL _
  have hval : ∀ (j : Nat) t v, Tryz.f4.params[j]? = some t → args[j]? = some v → Value.okWide Tryz.prog W .any base t v := hval0
  have hW' := hW
  obtain ⟨p, q, hA0, hV, rfl, hfz, hnd⟩ := hW
  have hA : DataW.TrodAll enc Tryz.prog W 0 (fun _ => true) true Tryz.f4.params.toList args.toList ds p := hA0
  rw [Tryz.params4] at hA hval
  obtain ⟨v0, vs0, d0, ds0, p0, q0, hargs, rfl, rfl, h0, r0⟩ := trodAll_cons hA
  obtain ⟨rfl, rfl, rfl⟩ := trodAll_nil r0
  obtain rfl : args = #[v0] := by cases args; simp_all
  obtain ⟨rfl, rfl⟩ := trodVars_none hV
  have k0 := h0
  have lt0 : ∀ x ∈ p0, x.block < W.heap.size := by obtain ⟨m, hm⟩ := k0; exact DataW.trod_lt m _ _ _ hm
  have a0 := open_bytes (hval 0 22 v0 rfl rfl) h0
  clear hA0 hval0
  refine (walk v0 W (tab_of hL) a0).mono fun e W' ⟨he, bel⟩ => ?_
  subst he
  exact ⟨_, rfl, _, _, _, [], _, [], hW', trodAll_mk1 (shut_bool Tryz.underlying4 _), (trodAll_cons_mk (Below.trod laidOut (by kernel_rfl) (of_decide_eq_true (by kernel_rfl)) k0 bel lt0) trodAll_mk0), rfl, bel.frame _, fun h => by cases h⟩
theorem over : Rows.fnLinesRow.holds Tryz.pinned (OpenSpec.ofChange Rows.fnLinesSpec) :=
  OpenClaim.holds_of_wide 4 Tryz.f4 rfl rfl rfl rfl rfl rfl rfl ⟨rfl, rfl, rfl, rfl, rfl⟩ rfl rfl rfl rfl rfl (by kernel_rfl) Tryz.func4 (by kernel_rfl)
    (of_decide_eq_true (by kernel_rfl)) (by unfold Func.isWrapper; first | (rw [if_pos (by decide +kernel)]; kernel_rfl) | (rw [if_neg (by decide +kernel)]; exact ⟨rfl, rfl⟩))
    (fun os started H enc _ => lifted os started H enc)
theorem proved : Rows.FnLinesCardSaid :=
  Claim7.holds_tied_plain_at .later [] Rows.fnLinesCard.laidKinds true Rows.fnLinesCard.stood.harness false
    over (fun _ h => by cases h) (by kernel_rfl) (fun _ h => by cases h) fnLines_row_tie rfl ⟨rfl, rfl⟩ (by kernel_rfl) rfl
    (fun f fn hf hfn => by
      obtain rfl : f = 4 := Option.some.inj ((show Tryz.prog.funcNamed Rows.fnLinesRow.func = some 4 by kernel_rfl).symm.trans hf) |>.symm
      obtain rfl : fn = Tryz.f4 := (Option.some.inj (Tryz.func4.symm.trans hfn)).symm
      exact ⟨by kernel_rfl, fun j t ht => by
        rw [Tryz.params4] at ht
        have hm : t ∈ [22] := by simpa using Array.mem_of_getElem? ht
        have hall : ([22].all fun u => !Tryz.prog.wantsStandIn u) = true := by kernel_rfl
        exact (show Tryz.prog.wantsStandIn t = false by simpa using List.all_eq_true.1 hall t hm)⟩)
    (by kernel_rfl)
end fnLines
end Go.Proofs.YtioemkdapoombaaGreatDoor
