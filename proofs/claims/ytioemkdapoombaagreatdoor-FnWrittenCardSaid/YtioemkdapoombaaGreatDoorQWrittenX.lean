/- The law FnWritten returns true for all slices of bytes. The row lists strconv's tables as the program's text lays them (the card ties them). -/
import Derived.Test.YtioemkdapoombaaGreatDoorQWrittenX24
import Derived.Test.YtioemkdapoombaaGreatDoorQWrittenX26
import Derived.Test.YtioemkdapoombaaGreatDoorQWrittenX32
import Derived.Test.YtioemkdapoombaaGreatDoorQWrittenX33
import Derived.Test.YtioemkdapoombaaGreatDoorQWrittenX37
import Derived.Test.YtioemkdapoombaaGreatDoorQWrittenX43
import Derived.Test.YtioemkdapoombaaGreatDoorQWrittenX44
import Derived.Test.YtioemkdapoombaaGreatDoorQWrittenX45
namespace Go.Proofs.YtioemkdapoombaaGreatDoor
open Go.ChangeShapes Go.WideShapes Go.ChangeAt Go.RowKit
set_option linter.unusedSimpArgs false
set_option linter.unusedVariables false
namespace fnWritten
theorem thrL_sz (xs : List Int) : ∀ s ∈ thrL xs, s.size ≤ 2000000 := fun s hs => by
  unfold thrL linTo at hs
  obtain ⟨k, -, rfl⟩ := List.mem_map.1 hs
  unfold lineAt
  rw [ByteArray.size_append, hexT_size]
  have h1 : thrS.size = 6 := rfl
  have h2 : ((xs.drop (12 * k)).take 12).length ≤ 12 := by rw [List.length_take]; omega
  omega
theorem doneR_sz {h m : Int} {L : List ByteArray} (hh : h ≤ 10) (hL : ∀ s ∈ L, s.size ≤ 2000000) : ∀ s ∈ doneR h m L, s.size ≤ 2000000 := fun s hs => by
  unfold doneR at hs
  rcases List.mem_cons.1 hs with rfl | hs
  · rw [ByteArray.size_append, stT_size]
    have h1 : staS.size = 6 := rfl
    omega
  · rcases List.mem_append.1 hs with hs | hs
    · exact hL s hs
    · rw [List.mem_singleton.1 hs]
      have h1 : endS.size = 3 := rfl
      omega
theorem rlTo_sz {h : Int} {X : List Part2} (R : RoutOk h X) : ∀ k, k ≤ X.length → ∀ s ∈ rlTo h X k, s.size ≤ 2000000
  | 0, _, s, hs => thrL_sz _ s hs
  | k + 1, hk, s, hs => by
    rcases List.mem_append.1 hs with hs | hs
    · rcases List.mem_append.1 hs with hs | hs
      · exact rlTo_sz R k (by omega) s hs
      · rw [List.mem_singleton.1 hs]
        obtain ⟨h1, h2⟩ := rt_sizes R (k := k) (by omega)
        unfold rtLine
        rw [ByteArray.size_append, ByteArray.size_append, ByteArray.size_append]
        have h3 : patS.size = 8 := rfl
        have h4 : (⟨#[32]⟩ : ByteArray).size = 1 := rfl
        omega
    · exact thrL_sz _ s hs
theorem rlL_sz (h : Int) (X : List Part2) : ∀ s ∈ rlL h X, s.size ≤ 2000000 := fun s hs => by
  unfold rlL at hs
  cases hv : validR h X
  · rw [hv] at hs; cases hs
  · rw [hv] at hs
    have R := rout_ok hv
    exact doneR_sz (by have := R.hh; omega) (rlTo_sz R X.length (Nat.le_refl _)) s hs
/-- what a record of throws that is written is -/
theorem lin_facts {h m : Int} {xs : List Int} (hc : linC h m xs = 0) : (∀ s ∈ linL h m xs, s.size ≤ 2000000) ∧ askC (linL h m xs) = 0 ∧ rpH (linL h m xs) = h ∧ rpM (linL h m xs) = runM m xs xs.length ∧ rpN (linL h m xs) = (xs.length : Int) ∧ thL (linL h m xs) = xs ∧
    runH h m = h ∧ runS h m xs = runM m xs xs.length ∧ runI h m xs = (xs.length : Int) ∧ runC h m xs = 0 := by
  unfold linC at hc
  cases hv : validB h m
  · rw [hv] at hc; cases hc
  · cases hr : runOk h m xs
    · rw [hv, hr] at hc; cases hc
    · cases hl : decide (xs.length ≤ 696)
      · rw [hv, hr, hl] at hc; cases hc
      · obtain ⟨k1, k2, k3, k4, k5⟩ := lines_whole hv hr (of_decide_eq_true hl)
        have e : linL h m xs = linR h m xs := by unfold linL; rw [hv, hr, hl]; rfl
        have hn : runN h m xs = xs.length := of_decide_eq_true hr
        rw [e]
        refine ⟨doneR_sz (by have := (validB_iff.1 hv).1; omega) (thrL_sz xs), k1, k2, k3, k4, k5, by unfold runH; rw [hv]; rfl, by unfold runS; rw [hv, hn]; rfl, by unfold runI; rw [hv, hn]; rfl, by unfold runC; rw [hv, hr]; rfl⟩
set_option maxHeartbeats 64000000 in
set_option maxRecDepth 100000 in
theorem walk (v0 : Value) (w : World) (hTab : Tab w) (a0 : Arg_bytes w v0) : Calls Tryz.prog 3 #[v0] w fun e w' => e = .returned (.bool true) ∧ Below w.heap.size w w' := by
  obtain ⟨bs, hb0⟩ := a0
  have HB0 := Lib.hid hb0
  have HTB := Lib.hid hTab
  clear hTab
  obtain ⟨aa, ca, rfl, hla, -, -⟩ := hb0
  cases hlong : decide ((bs.length : Int) > 4096)
  rotate_left
  · go_enter Tryz.func3, Tryz.ntmps3
    go_wp2_with fail
    refine (c_laws_f6big _ _ _ _ (by omega)).mono ?_; rintro e w1 ⟨rfl, rfl⟩; rw [hlong]
    go_wp2
    go_ret
    exact ⟨rfl, by (repeat (first | (with_reducible assumption) | (with_reducible exact Below.refl _ _) | (with_reducible refine Below.setCell ?_ (by first | (simp; done) | (simp; omega)) _) | (with_reducible refine Below.al ?_ _) | (with_reducible refine Below.dr ?_) | (with_reducible refine Below.drN ?_ _) | (with_reducible refine Below.tr ?_ (by with_reducible assumption))))⟩
  go_enter Tryz.func3, Tryz.ntmps3
  go_wp2_with fail
  refine (c_laws_f6big _ _ _ _ (by omega)).mono ?_; rintro e w0 ⟨rfl, rfl⟩; rw [hlong]
  have BB : Below w.heap.size w w := Below.refl _ _
  go_wp2_with fail
  refine (c_spec_DrawLinesOf bs _ _ HB0.out).mono ?_; rintro e w1 ⟨u, xs, h, m, rfl, ho, hxl, hb1⟩
  have HXC := Lib.hid ho.rdc
  obtain ⟨au, cu, hu, -⟩ := ho.rd
  obtain ⟨n, hn⟩ : ∃ n, xs.length = n := ⟨_, rfl⟩
  have HN := Lib.hid hn
  rw [hn] at hu hxl
  subst hu
  clear hn ho
  replace BB := BB.tr hb1
  clear hb1
  have TA := VBox.new w1 25 (.int .i64 h) (.int .i64 m)
  have ha : Below w1.heap.size w1 (w1.alloc (Obj.cells #[.int .i64 h, .int .i64 m] 25)) := (Below.refl _ _).al _
  go_wp2_with fail
  have cA0 := TA.c0
  have cA1 := TA.c1
  replace HXC := Lib.hid (HXC.out.below ha)
  replace BB := BB.tr ha
  generalize (w1.alloc (Obj.cells #[.int .i64 h, .int .i64 m] 25)) = x1 at *
  obtain ⟨bA, hbe⟩ : ∃ b, w1.heap.size = b := ⟨_, rfl⟩
  rw [hbe] at TA cA0 cA1 ⊢
  clear ha hbe
  obtain ⟨C1, hC1⟩ : ∃ C, linC h m xs = C := ⟨_, rfl⟩
  obtain ⟨L1, hL1⟩ : ∃ C, linL h m xs = C := ⟨_, rfl⟩
  obtain ⟨l1, hl1⟩ : ∃ l, L1.length = l := ⟨_, rfl⟩
  refine (c_impl_LinesOf h m xs _ _ HXC.out (by rw [HN.out]; omega)).mono ?_; rintro e w2 ⟨r1, rfl, ho1, hb2⟩
  rw [hC1]
  rw [hL1] at ho1
  have HT1 := Lib.hid (OwnRow.rdtc ho1)
  obtain ⟨a1, c1, hr1, -⟩ := (OwnRow.rdtc ho1).2
  rw [hl1] at hr1
  subst hr1
  clear ho1
  replace TA := TA.below hb2
  replace cA0 := TA.c0
  replace cA1 := TA.c1
  replace HXC := Lib.hid (HXC.out.below hb2)
  replace BB := BB.tr hb2
  clear hb2
  go_wp2_with fail
  refine (c_spec_LinesOf h m xs _ _ HXC.out (by rw [HN.out]; omega)).mono ?_; rintro e w3 ⟨r2, rfl, ho2, hb3⟩
  rw [hC1]
  rw [hL1] at ho2
  have HT2 := Lib.hid (OwnRow.rdtc ho2)
  obtain ⟨a2, c2, hr2, -⟩ := (OwnRow.rdtc ho2).2
  rw [hl1] at hr2
  subst hr2
  clear ho2
  replace TA := TA.below hb3
  replace cA0 := TA.c0
  replace cA1 := TA.c1
  replace HXC := Lib.hid (HXC.out.below hb3)
  replace HT1 := Lib.hid (HT1.out.below hb3)
  replace BB := BB.tr hb3
  clear hb3
  have HC1 := Lib.hid hC1
  have HL1 := Lib.hid hL1
  clear hC1 hL1 hl1
  go_wp2_with fail
  refine (c_spec_DrawRoutineLines bs _ _ (HB0.out.below BB)).mono ?_; rintro e w4 ⟨ut, X, H, rfl, ht, hb4⟩
  have HX := Lib.hid ht
  obtain ⟨at1, ct, rfl, -, -⟩ := ht
  obtain ⟨nx, hnx⟩ : ∃ n, X.length = n := ⟨_, rfl⟩
  rw [hnx] at HX ⊢
  clear hnx
  replace TA := TA.below hb4
  replace cA0 := TA.c0
  replace cA1 := TA.c1
  replace HXC := Lib.hid (HXC.out.below hb4)
  replace HT1 := Lib.hid (HT1.out.below hb4)
  replace HT2 := Lib.hid (HT2.out.below hb4)
  replace BB := BB.tr hb4
  clear hb4
  have TB := VBox.new w4 34 (.int .i64 H) (.slice at1 nx ct)
  have ha : Below w4.heap.size w4 (w4.alloc (Obj.cells #[.int .i64 H, .slice at1 nx ct] 34)) := (Below.refl _ _).al _
  have dA0 := keepc ha cA0
  have dA1 := keepc ha cA1
  go_wp2_with fail
  clear dA0 dA1
  have cB0 := TB.c0
  have cB1 := TB.c1
  replace TA := TA.below ha
  replace cA0 := TA.c0
  replace cA1 := TA.c1
  replace HXC := Lib.hid (HXC.out.below ha)
  replace HT1 := Lib.hid (HT1.out.below ha)
  replace HT2 := Lib.hid (HT2.out.below ha)
  replace HX := Lib.hid (HX.out.below ha)
  replace BB := BB.tr ha
  generalize (w4.alloc (Obj.cells #[.int .i64 H, .slice at1 nx ct] 34)) = x4 at *
  obtain ⟨bB, hbe⟩ : ∃ b, w4.heap.size = b := ⟨_, rfl⟩
  rw [hbe] at TB cB0 cB1 ⊢
  clear ha hbe
  obtain ⟨C2, hC2⟩ : ∃ C, rtC H X = C := ⟨_, rfl⟩
  obtain ⟨L2, hL2⟩ : ∃ C, rlL H X = C := ⟨_, rfl⟩
  obtain ⟨l2, hl2⟩ : ∃ l, L2.length = l := ⟨_, rfl⟩
  refine (c_impl_RoutineLines X H _ _ HX.out (tab_below HTB.out BB)).mono ?_; rintro e w5 ⟨r3, rfl, ho3, hb5⟩
  rw [hC2]
  rw [hL2] at ho3
  have HT3 := Lib.hid (OwnRow.rdtc ho3)
  obtain ⟨a3, c3, hr3, -⟩ := (OwnRow.rdtc ho3).2
  rw [hl2] at hr3
  subst hr3
  clear ho3
  replace TA := TA.below hb5
  replace TB := TB.below hb5
  replace cA0 := TA.c0
  replace cA1 := TA.c1
  replace cB0 := TB.c0
  replace cB1 := TB.c1
  replace HXC := Lib.hid (HXC.out.below hb5)
  replace HT1 := Lib.hid (HT1.out.below hb5)
  replace HT2 := Lib.hid (HT2.out.below hb5)
  replace HX := Lib.hid (HX.out.below hb5)
  replace BB := BB.tr hb5
  clear hb5
  go_wp2_with fail
  refine (c_spec_RoutineLines X H _ _ HX.out).mono ?_; rintro e w6 ⟨r4, rfl, ho4, hb6⟩
  rw [hC2]
  rw [hL2] at ho4
  have HT4 := Lib.hid (OwnRow.rdtc ho4)
  obtain ⟨a4, c4, hr4, -⟩ := (OwnRow.rdtc ho4).2
  rw [hl2] at hr4
  subst hr4
  clear ho4
  replace TA := TA.below hb6
  replace TB := TB.below hb6
  replace cA0 := TA.c0
  replace cA1 := TA.c1
  replace cB0 := TB.c0
  replace cB1 := TB.c1
  replace HXC := Lib.hid (HXC.out.below hb6)
  replace HT1 := Lib.hid (HT1.out.below hb6)
  replace HT2 := Lib.hid (HT2.out.below hb6)
  replace HX := Lib.hid (HX.out.below hb6)
  replace HT3 := Lib.hid (HT3.out.below hb6)
  replace BB := BB.tr hb6
  clear hb6
  have HC2 := Lib.hid hC2
  have HL2 := Lib.hid hL2
  clear hC2 hL2 hl2
  have t1 : (C1 != C1) = false := by simp
  have t2 : (C2 != C2) = false := by simp
  go_wp2_with fail
  refine (c_laws_f6texts L1 _ _ _ HT1.out.row HT2.out.row).mono ?_; rintro e w7 ⟨rfl, hb7⟩
  replace TA := TA.below hb7
  replace TB := TB.below hb7
  replace cA0 := TA.c0
  replace cA1 := TA.c1
  replace cB0 := TB.c0
  replace cB1 := TB.c1
  replace HXC := Lib.hid (HXC.out.below hb7)
  replace HT1 := Lib.hid (HT1.out.below hb7)
  replace HT2 := Lib.hid (HT2.out.below hb7)
  replace HX := Lib.hid (HX.out.below hb7)
  replace HT3 := Lib.hid (HT3.out.below hb7)
  replace HT4 := Lib.hid (HT4.out.below hb7)
  replace BB := BB.tr hb7
  clear hb7
  go_wp2_with fail
  refine (c_laws_f6texts L2 _ _ _ HT3.out.row HT4.out.row).mono ?_; rintro e w8 ⟨rfl, hb8⟩
  replace TA := TA.below hb8
  replace TB := TB.below hb8
  replace cA0 := TA.c0
  replace cA1 := TA.c1
  replace cB0 := TB.c0
  replace cB1 := TB.c1
  replace HXC := Lib.hid (HXC.out.below hb8)
  replace HT1 := Lib.hid (HT1.out.below hb8)
  replace HT2 := Lib.hid (HT2.out.below hb8)
  replace HX := Lib.hid (HX.out.below hb8)
  replace HT3 := Lib.hid (HT3.out.below hb8)
  replace HT4 := Lib.hid (HT4.out.below hb8)
  replace BB := BB.tr hb8
  clear hb8
  clear HT2 HT4 t1 t2
  by_cases hR0 : C2 = 0
  rotate_left
  · have tR : (C2 == 0) = false := beq_eq_false_iff_ne.2 hR0
    clear TB cB0 cB1 HX HT3 hR0
    by_cases hC0 : C1 = 0
    rotate_left
    · have tC : (C1 != 0) = true := by simpa using hC0
      go_wp2
      go_ret
      exact ⟨rfl, BB⟩
    subst hC0
    have hf := lin_facts HC1.out
    rw [HL1.out, HN.out] at hf
    obtain ⟨hsz, f1, f2, f3, f4, f5, g1, g2, g3, g4⟩ := hf
    have HSZ := Lib.hid hsz
    have F1 := Lib.hid f1
    have F2 := Lib.hid f2
    have F3 := Lib.hid f3
    have F4 := Lib.hid f4
    have F5 := Lib.hid f5
    have G1 := Lib.hid g1
    have G2 := Lib.hid g2
    have G3 := Lib.hid g3
    have G4 := Lib.hid g4
    obtain ⟨M, hM⟩ : ∃ M, runM m xs n = M := ⟨_, rfl⟩
    rw [hM] at F3 G2
    clear hsz f1 f2 f3 f4 f5 g1 g2 g3 g4 hM
    go_wp2_with fail
    refine (c_impl_ReplayLines L1 _ _ HT1.out HSZ.out (tab_below HTB.out BB)).mono ?_; rintro e w9 ⟨rfl, hb9⟩
    rw [F1.out, F2.out, F3.out, F4.out]
    replace TA := TA.below hb9
    replace cA0 := TA.c0
    replace cA1 := TA.c1
    replace HXC := Lib.hid (HXC.out.below hb9)
    replace HT1 := Lib.hid (HT1.out.below hb9)
    replace BB := BB.tr hb9
    clear hb9
    have TD := VBox.new w9 25 (.int .i64 h) (.int .i64 M)
    have ha : Below w9.heap.size w9 (w9.alloc (Obj.cells #[.int .i64 h, .int .i64 M] 25)) := (Below.refl _ _).al _
    have dA0 := keepc ha cA0
    have dA1 := keepc ha cA1
    go_wp2_with fail
    clear dA0 dA1
    have cD0 := TD.c0
    have cD1 := TD.c1
    replace TA := TA.below ha
    replace cA0 := TA.c0
    replace cA1 := TA.c1
    replace HXC := Lib.hid (HXC.out.below ha)
    replace HT1 := Lib.hid (HT1.out.below ha)
    replace BB := BB.tr ha
    generalize (w9.alloc (Obj.cells #[.int .i64 h, .int .i64 M] 25)) = x9 at *
    obtain ⟨bD, hbe⟩ : ∃ b, w9.heap.size = b := ⟨_, rfl⟩
    rw [hbe] at TD cD0 cD1 ⊢
    clear ha hbe
    refine (c_spec_RunThrows h m xs _ _ HXC.out.1).mono ?_; rintro e w10 ⟨rfl, hb10⟩
    rw [G1.out, G2.out, G3.out, G4.out]
    replace TA := TA.below hb10
    replace TD := TD.below hb10
    replace cA0 := TA.c0
    replace cA1 := TA.c1
    replace cD0 := TD.c0
    replace cD1 := TD.c1
    replace HXC := Lib.hid (HXC.out.below hb10)
    replace HT1 := Lib.hid (HT1.out.below hb10)
    replace BB := BB.tr hb10
    clear hb10
    have TE := VBox.new w10 25 (.int .i64 h) (.int .i64 M)
    have ha : Below w10.heap.size w10 (w10.alloc (Obj.cells #[.int .i64 h, .int .i64 M] 25)) := (Below.refl _ _).al _
    have dA0 := keepc ha cA0
    have dA1 := keepc ha cA1
    have dD0 := keepc ha cD0
    have dD1 := keepc ha cD1
    go_wp2_with fail
    clear dA0 dA1 dD0 dD1
    have cE0 := TE.c0
    have cE1 := TE.c1
    replace TA := TA.below ha
    replace TD := TD.below ha
    replace cA0 := TA.c0
    replace cA1 := TA.c1
    replace cD0 := TD.c0
    replace cD1 := TD.c1
    replace HXC := Lib.hid (HXC.out.below ha)
    replace HT1 := Lib.hid (HT1.out.below ha)
    replace BB := BB.tr ha
    generalize (w10.alloc (Obj.cells #[.int .i64 h, .int .i64 M] 25)) = x10 at *
    obtain ⟨bE, hbe⟩ : ∃ b, w10.heap.size = b := ⟨_, rfl⟩
    rw [hbe] at TE cE0 cE1 ⊢
    clear ha hbe
    refine (c_impl_ThrowsOf L1 _ _ HT1.out HSZ.out (tab_below HTB.out BB)).mono ?_; rintro e w11 ⟨u5, rfl, ho5, hb11⟩
    rw [F1.out]
    rw [F5.out] at ho5
    have HU5 := Lib.hid ho5.rd
    obtain ⟨a5, c5, hu5, -, -⟩ := ho5.rd
    subst hu5
    clear ho5
    rw [HN.out]
    replace TA := TA.below hb11
    replace TD := TD.below hb11
    replace TE := TE.below hb11
    replace cA0 := TA.c0
    replace cA1 := TA.c1
    replace cD0 := TD.c0
    replace cD1 := TD.c1
    replace cE0 := TE.c0
    replace cE1 := TE.c1
    replace HXC := Lib.hid (HXC.out.below hb11)
    replace HT1 := Lib.hid (HT1.out.below hb11)
    replace BB := BB.tr hb11
    clear hb11
    have qs := fun w => eqlState w h M h M
    rw [decide_eq_true (⟨rfl, rfl⟩ : h = h ∧ M = M)] at qs
    have gs := gState
    have tn : ((n : Int) == (n : Int)) = true := beq_self_eq_true _
    go_wp2_with fail
    refine (c_laws_f6ints xs _ _ _ (by have h9 := HU5.out; rw [HN.out] at h9; exact h9) HXC.out.1).mono ?_; rintro e w12 ⟨rfl, hb12⟩
    replace TA := TA.below hb12
    replace TD := TD.below hb12
    replace TE := TE.below hb12
    replace cA0 := TA.c0
    replace cA1 := TA.c1
    replace cD0 := TD.c0
    replace cD1 := TD.c1
    replace cE0 := TE.c0
    replace cE1 := TE.c1
    replace HXC := Lib.hid (HXC.out.below hb12)
    replace HT1 := Lib.hid (HT1.out.below hb12)
    replace HU5 := Lib.hid (HU5.out.below hb12)
    replace BB := BB.tr hb12
    clear hb12
    go_wp2
    go_ret
    exact ⟨by simp, BB⟩
  subst hR0
  have hv : validR H X = true := by
    have h9 := HC2.out
    cases e : validR H X
    · unfold rtC at h9; rw [e] at h9; cases h9
    · rfl
  have hw := rout_whole hv
  have hz2 := rlL_sz H X
  rw [HL2.out] at hw hz2
  have HW1 := Lib.hid hw.1
  have HW2 := Lib.hid hw.2
  have HZ2 := Lib.hid hz2
  clear hv hw hz2
  go_wp2_with fail
  refine (c_impl_ThrowsOf L2 _ _ HT3.out HZ2.out (tab_below HTB.out BB)).mono ?_; rintro e w9 ⟨u6, rfl, ho6, hb9⟩
  rw [HW1.out]
  rw [HW2.out] at ho6
  have HU6 := Lib.hid ho6.rd
  obtain ⟨a6, c6, hu6, -, -⟩ := ho6.rd
  subst hu6
  clear ho6
  replace TA := TA.below hb9
  replace TB := TB.below hb9
  replace cA0 := TA.c0
  replace cA1 := TA.c1
  replace cB0 := TB.c0
  replace cB1 := TB.c1
  replace HXC := Lib.hid (HXC.out.below hb9)
  replace HT1 := Lib.hid (HT1.out.below hb9)
  replace HX := Lib.hid (HX.out.below hb9)
  replace HT3 := Lib.hid (HT3.out.below hb9)
  replace BB := BB.tr hb9
  clear hb9
  go_wp2_with fail
  refine (c_spec_RoutineThrows X H _ _ HX.out).mono ?_; rintro e w10 ⟨u7, rfl, ho7, hb10⟩
  rw [HC2.out]
  have HU7 := Lib.hid ho7.rd
  obtain ⟨a7, c7, hu7, -, -⟩ := ho7.rd
  subst hu7
  clear ho7
  replace TA := TA.below hb10
  replace TB := TB.below hb10
  replace cA0 := TA.c0
  replace cA1 := TA.c1
  replace cB0 := TB.c0
  replace cB1 := TB.c1
  replace HXC := Lib.hid (HXC.out.below hb10)
  replace HT1 := Lib.hid (HT1.out.below hb10)
  replace HX := Lib.hid (HX.out.below hb10)
  replace HT3 := Lib.hid (HT3.out.below hb10)
  replace HU6 := Lib.hid (HU6.out.below hb10)
  replace BB := BB.tr hb10
  clear hb10
  go_wp2_with fail
  refine (c_laws_f6ints (thX H X) _ _ _ HU6.out HU7.out).mono ?_; rintro e w11 ⟨rfl, hb11⟩
  replace TA := TA.below hb11
  replace TB := TB.below hb11
  replace cA0 := TA.c0
  replace cA1 := TA.c1
  replace cB0 := TB.c0
  replace cB1 := TB.c1
  replace HXC := Lib.hid (HXC.out.below hb11)
  replace HT1 := Lib.hid (HT1.out.below hb11)
  replace HX := Lib.hid (HX.out.below hb11)
  replace HT3 := Lib.hid (HT3.out.below hb11)
  replace HU6 := Lib.hid (HU6.out.below hb11)
  replace HU7 := Lib.hid (HU7.out.below hb11)
  replace BB := BB.tr hb11
  clear hb11
  clear TB cB0 cB1 HX HT3 HU6 HU7
  by_cases hC0 : C1 = 0
  rotate_left
  · have tC : (C1 != 0) = true := by simpa using hC0
    go_wp2
    go_ret
    exact ⟨rfl, BB⟩
  subst hC0
  have hf := lin_facts HC1.out
  rw [HL1.out, HN.out] at hf
  obtain ⟨hsz, f1, f2, f3, f4, f5, g1, g2, g3, g4⟩ := hf
  have HSZ := Lib.hid hsz
  have F1 := Lib.hid f1
  have F2 := Lib.hid f2
  have F3 := Lib.hid f3
  have F4 := Lib.hid f4
  have F5 := Lib.hid f5
  have G1 := Lib.hid g1
  have G2 := Lib.hid g2
  have G3 := Lib.hid g3
  have G4 := Lib.hid g4
  obtain ⟨M, hM⟩ : ∃ M, runM m xs n = M := ⟨_, rfl⟩
  rw [hM] at F3 G2
  clear hsz f1 f2 f3 f4 f5 g1 g2 g3 g4 hM
  go_wp2_with fail
  refine (c_impl_ReplayLines L1 _ _ HT1.out HSZ.out (tab_below HTB.out BB)).mono ?_; rintro e w12 ⟨rfl, hb12⟩
  rw [F1.out, F2.out, F3.out, F4.out]
  replace TA := TA.below hb12
  replace cA0 := TA.c0
  replace cA1 := TA.c1
  replace HXC := Lib.hid (HXC.out.below hb12)
  replace HT1 := Lib.hid (HT1.out.below hb12)
  replace BB := BB.tr hb12
  clear hb12
  have TD := VBox.new w12 25 (.int .i64 h) (.int .i64 M)
  have ha : Below w12.heap.size w12 (w12.alloc (Obj.cells #[.int .i64 h, .int .i64 M] 25)) := (Below.refl _ _).al _
  have dA0 := keepc ha cA0
  have dA1 := keepc ha cA1
  go_wp2_with fail
  clear dA0 dA1
  have cD0 := TD.c0
  have cD1 := TD.c1
  replace TA := TA.below ha
  replace cA0 := TA.c0
  replace cA1 := TA.c1
  replace HXC := Lib.hid (HXC.out.below ha)
  replace HT1 := Lib.hid (HT1.out.below ha)
  replace BB := BB.tr ha
  generalize (w12.alloc (Obj.cells #[.int .i64 h, .int .i64 M] 25)) = x12 at *
  obtain ⟨bD, hbe⟩ : ∃ b, w12.heap.size = b := ⟨_, rfl⟩
  rw [hbe] at TD cD0 cD1 ⊢
  clear ha hbe
  refine (c_spec_RunThrows h m xs _ _ HXC.out.1).mono ?_; rintro e w13 ⟨rfl, hb13⟩
  rw [G1.out, G2.out, G3.out, G4.out]
  replace TA := TA.below hb13
  replace TD := TD.below hb13
  replace cA0 := TA.c0
  replace cA1 := TA.c1
  replace cD0 := TD.c0
  replace cD1 := TD.c1
  replace HXC := Lib.hid (HXC.out.below hb13)
  replace HT1 := Lib.hid (HT1.out.below hb13)
  replace BB := BB.tr hb13
  clear hb13
  have TE := VBox.new w13 25 (.int .i64 h) (.int .i64 M)
  have ha : Below w13.heap.size w13 (w13.alloc (Obj.cells #[.int .i64 h, .int .i64 M] 25)) := (Below.refl _ _).al _
  have dA0 := keepc ha cA0
  have dA1 := keepc ha cA1
  have dD0 := keepc ha cD0
  have dD1 := keepc ha cD1
  go_wp2_with fail
  clear dA0 dA1 dD0 dD1
  have cE0 := TE.c0
  have cE1 := TE.c1
  replace TA := TA.below ha
  replace TD := TD.below ha
  replace cA0 := TA.c0
  replace cA1 := TA.c1
  replace cD0 := TD.c0
  replace cD1 := TD.c1
  replace HXC := Lib.hid (HXC.out.below ha)
  replace HT1 := Lib.hid (HT1.out.below ha)
  replace BB := BB.tr ha
  generalize (w13.alloc (Obj.cells #[.int .i64 h, .int .i64 M] 25)) = x13 at *
  obtain ⟨bE, hbe⟩ : ∃ b, w13.heap.size = b := ⟨_, rfl⟩
  rw [hbe] at TE cE0 cE1 ⊢
  clear ha hbe
  refine (c_impl_ThrowsOf L1 _ _ HT1.out HSZ.out (tab_below HTB.out BB)).mono ?_; rintro e w14 ⟨u5, rfl, ho5, hb14⟩
  rw [F1.out]
  rw [F5.out] at ho5
  have HU5 := Lib.hid ho5.rd
  obtain ⟨a5, c5, hu5, -, -⟩ := ho5.rd
  subst hu5
  clear ho5
  rw [HN.out]
  replace TA := TA.below hb14
  replace TD := TD.below hb14
  replace TE := TE.below hb14
  replace cA0 := TA.c0
  replace cA1 := TA.c1
  replace cD0 := TD.c0
  replace cD1 := TD.c1
  replace cE0 := TE.c0
  replace cE1 := TE.c1
  replace HXC := Lib.hid (HXC.out.below hb14)
  replace HT1 := Lib.hid (HT1.out.below hb14)
  replace BB := BB.tr hb14
  clear hb14
  have qs := fun w => eqlState w h M h M
  rw [decide_eq_true (⟨rfl, rfl⟩ : h = h ∧ M = M)] at qs
  have gs := gState
  have tn : ((n : Int) == (n : Int)) = true := beq_self_eq_true _
  go_wp2_with fail
  refine (c_laws_f6ints xs _ _ _ (by have h9 := HU5.out; rw [HN.out] at h9; exact h9) HXC.out.1).mono ?_; rintro e w15 ⟨rfl, hb15⟩
  replace TA := TA.below hb15
  replace TD := TD.below hb15
  replace TE := TE.below hb15
  replace cA0 := TA.c0
  replace cA1 := TA.c1
  replace cD0 := TD.c0
  replace cD1 := TD.c1
  replace cE0 := TE.c0
  replace cE1 := TE.c1
  replace HXC := Lib.hid (HXC.out.below hb15)
  replace HT1 := Lib.hid (HT1.out.below hb15)
  replace HU5 := Lib.hid (HU5.out.below hb15)
  replace BB := BB.tr hb15
  clear hb15
  go_wp2
  go_ret
  exact ⟨by simp, BB⟩
theorem own : ownKnob Tryz.prog.godebug = none := by kernel_rfl
theorem laidOut : laidOutB Tryz.prog = true := by kernel_rfl
theorem door_met (os : Os) (args : Array Value) : laidMetH Tryz.prog Rows.fnWrittenRow.laid ((World.doorLaid Tryz.prog 24 os).forCall (fun _ _ => 0) ⟨#[], args, []⟩).memory :=
  laidMetH_of_parts3 (fuel := 8) (laidMet_of_run' 8 (by kernel_rfl) (by kernel_rfl)) (by kernel_rfl) (by kernel_rfl)
set_option maxRecDepth 100000 in
theorem lifted (os : Os) (started : os.Started) (H : Type) (enc : TypeId × Value → H) :
    ReturnsInHanded {} Tryz.checked os 3 .any (fun w args => (Rows.fnWrittenSpec.pre enc Tryz.prog Tryz.f3 [] false w args ∧ laidMetH Tryz.prog Rows.fnWrittenRow.laid w) ∧ sizedMet enc Tryz.prog Tryz.f3 (OpenSpec.ofChange Rows.fnWrittenSpec) false w args)
      (Rows.fnWrittenSpec.post enc Tryz.prog Tryz.f3 false true false false) := by
  refine returnsInHanded_of_change_and (C := Tryz.checked) (X := fun w _ => laidMetH Tryz.prog Rows.fnWrittenRow.laid w) (fun _ _ _ hh h => h.of_heap hh) own started (by kernel_rfl) Tryz.func3
    (ChangeSpec.witness_shaped (enc := enc) (C := Tryz.checked) (os := os) (X := fun w _ => laidMetH Tryz.prog Rows.fnWrittenRow.laid w) false (World.doorLaid Tryz.prog 24 os) #[.slice none 0 0] 8 rfl (World.shaped_of_RefB (by kernel_rfl) (by kernel_rfl)) (by kernel_rfl) (by kernel_rfl) (by kernel_rfl) (door_met os _)) ?_
  intro W base args ds gs before hval0 hW _ _ hL _
  have hval : ∀ (j : Nat) t v, Tryz.f3.params[j]? = some t → args[j]? = some v → Value.okWide Tryz.prog W .any base t v := hval0
  have hW' := hW
  obtain ⟨p, q, hA0, hV, rfl, hfz, hnd⟩ := hW
  have hA : DataW.TrodAll enc Tryz.prog W 0 (fun _ => true) true Tryz.f3.params.toList args.toList ds p := hA0
  rw [Tryz.params3] at hA hval
  obtain ⟨v0, vs0, d0, ds0, p0, q0, hargs, rfl, rfl, h0, r0⟩ := trodAll_cons hA
  obtain ⟨rfl, rfl, rfl⟩ := trodAll_nil r0
  obtain rfl : args = #[v0] := by cases args; simp_all
  obtain ⟨rfl, rfl⟩ := trodVars_none hV
  have k0 := h0
  have lt0 : ∀ x ∈ p0, x.block < W.heap.size := by obtain ⟨m, hm⟩ := k0; exact DataW.trod_lt m _ _ _ hm
  have a0 := open_bytes (hval 0 22 v0 rfl rfl) h0
  clear hA0 hval0
  refine (walk v0 W (tab_of hL) a0).mono fun e W' ⟨he, bel⟩ => ?_
  subst he
  exact ⟨_, rfl, _, _, _, [], _, [], hW', trodAll_mk1 (shut_bool Tryz.underlying4 _), (trodAll_cons_mk (Below.trod laidOut (by kernel_rfl) (of_decide_eq_true (by kernel_rfl)) k0 bel lt0) trodAll_mk0), rfl, bel.frame _, fun h => by cases h⟩
theorem over : Rows.fnWrittenRow.holds Tryz.pinned (OpenSpec.ofChange Rows.fnWrittenSpec) :=
  OpenClaim.holds_of_wide 3 Tryz.f3 rfl rfl rfl rfl rfl rfl rfl ⟨rfl, rfl, rfl, rfl, rfl⟩ rfl rfl rfl rfl rfl (by kernel_rfl) Tryz.func3 (by kernel_rfl)
    (of_decide_eq_true (by kernel_rfl)) (by unfold Func.isWrapper; first | (rw [if_pos (by decide +kernel)]; kernel_rfl) | (rw [if_neg (by decide +kernel)]; exact ⟨rfl, rfl⟩))
    (fun os started H enc _ => lifted os started H enc)
theorem proved : Rows.FnWrittenCardSaid :=
  Claim7.holds_tied_plain_at .later [] Rows.fnWrittenCard.laidKinds true Rows.fnWrittenCard.stood.harness false
    over (fun _ h => by cases h) (by kernel_rfl) (fun _ h => by cases h) fnWritten_row_tie rfl ⟨rfl, rfl⟩ (by kernel_rfl) rfl
    (fun f fn hf hfn => by
      obtain rfl : f = 3 := Option.some.inj ((show Tryz.prog.funcNamed Rows.fnWrittenRow.func = some 3 by kernel_rfl).symm.trans hf) |>.symm
      obtain rfl : fn = Tryz.f3 := (Option.some.inj (Tryz.func3.symm.trans hfn)).symm
      exact ⟨by kernel_rfl, fun j t ht => by
        rw [Tryz.params3] at ht
        have hm : t ∈ [22] := by simpa using Array.mem_of_getElem? ht
        have hall : ([22].all fun u => !Tryz.prog.wantsStandIn u) = true := by kernel_rfl
        exact (show Tryz.prog.wantsStandIn t = false by simpa using List.all_eq_true.1 hall t hm)⟩)
    (by kernel_rfl)
end fnWritten
end Go.Proofs.YtioemkdapoombaaGreatDoor
