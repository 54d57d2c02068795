/- The law FnOrders returns true for all slices of bytes. No condition. -/
import Derived.Test.YtgcmnpimkfmccaaQOrdersX07
import Derived.Test.YtgcmnpimkfmccaaQOrdersX36
import Derived.Test.YtgcmnpimkfmccaaQOrdersX40
import Derived.Test.YtgcmnpimkfmccaaQOrdersX43
import Derived.Test.YtgcmnpimkfmccaaQOrdersX44
import Derived.Test.YtgcmnpimkfmccaaQOrdersX47
namespace Go.Proofs.Ytgcmnpimkfmccaa
open Go.ChangeShapes Go.WideShapes Go.ChangeAt Go.RowKit
set_option linter.unusedSimpArgs false
set_option linter.unusedVariables false
namespace fnOrders
theorem infoB : (Try.prog.info? 4).map (fun i => (i.zero, i.size, i.bytes)) = some (some (.bool false), 1, 1) := by kernel_rfl
theorem valid_mem {h : Int} {X Y : List Part2} (hv : validR h X = true) (hl : Y.length = X.length) (hm : ∀ p ∈ Y, p ∈ X) : validR h Y = true := by
  have hL := (rout_ok hv).hl
  unfold validR at hv ⊢
  rw [Bool.and_eq_true, Bool.and_eq_true] at hv ⊢
  obtain ⟨h1, h2, h3⟩ := hv
  rw [List.all_eq_true] at h3 ⊢
  have hh : headN Y = headN X := by
    have h0 : 0 < Y.length := by omega
    have e : Y.getD 0 ([], 0) = Y[0] := by simp [List.getD, h0]
    have h5 := h3 _ (hm _ (List.getElem_mem h0))
    unfold okPt at h5
    rw [Bool.and_eq_true, beq_iff_eq] at h5
    unfold headN
    rw [e]
    exact h5.2
  refine ⟨h1, by rw [hl]; exact h2, fun p hp => ?_⟩
  rw [hh]
  exact h3 p (hm p hp)
theorem valid_rev {h : Int} {X : List Part2} (hv : validR h X = true) : validR h X.reverse = true := valid_mem hv (by simp) (fun p hp => List.mem_reverse.1 hp)
theorem permX_mem {X : List Part2} {O : List Int} (hp : PathO X.length O) : ∀ p ∈ permX X O, p ∈ X := fun p hpm => by
  unfold permX at hpm
  obtain ⟨k, hk, rfl⟩ := List.mem_map.1 hpm
  have hr := hp.rg k hk
  have hlt : k.toNat < X.length := by omega
  rw [show X.getD k.toNat pZ = X[k.toNat] by simp [List.getD, hlt]]
  exact List.getElem_mem hlt
theorem valid_perm {h : Int} {X : List Part2} {O : List Int} (hv : validR h X = true) (hp : PathO X.length O) (hl : O.length = X.length) : validR h (permX X O) = true :=
  valid_mem hv (by rw [permX_len]; exact hl) (permX_mem hp)
theorem tr_tr {h : Int} {X : List Part2} (hc : rtC h X = 0) : toH h X = h ∧ trX h X = X.reverse ∧ rtC (toH h X) (trX h X) = 0 ∧ toH (toH h X) (trX h X) = h ∧ trX (toH h X) (trX h X) = X := by
  have hv : validR h X = true := by
    cases e : validR h X
    · unfold rtC at hc; rw [e] at hc; cases hc
    · rfl
  have e1 : toH h X = h := by unfold toH; rw [hv]; rfl
  have e2 : trX h X = X.reverse := by unfold trX; rw [hv]; rfl
  have hr := valid_rev hv
  rw [e1, e2]
  refine ⟨rfl, rfl, by unfold rtC; rw [hr]; rfl, by unfold toH; rw [hr]; rfl, by unfold trX; rw [hr]; exact List.reverse_reverse X⟩
/-- all that the law asks of the order -/
theorem so_facts {h : Int} {X : List Part2} (hc : soC h X = 0) : validR h X = true ∧ PathO X.length (soX h X) ∧ (soX h X).length = X.length ∧ toH h X = h ∧ trX h X = X.reverse ∧
    soL h X = ((thX h (permX X (soX h X))).length : Int) ∧ ((thX h (permX X (soX h X))).length : Int) ≤ ((thX h X).length : Int) ∧ ((thX h (permX X (soX h X))).length : Int) ≤ ((thX h X.reverse).length : Int) ∧ rtC h (permX X (soX h X)) = 0 ∧ rtC h X = 0 ∧ rtC h X.reverse = 0 := by
  have hv : validR h X = true := by
    cases e : validR h X
    · unfold soC at hc; rw [e] at hc; cases hc
    · rfl
  obtain ⟨hp, hl, hs⟩ := so_path hv
  obtain ⟨h1, h2⟩ := so_both hv
  have hvp := valid_perm hv hp hl
  have hvr := valid_rev hv
  have e1 : thX h (permX X (soX h X)) = thrR h (permX X (soX h X)) := by unfold thX; rw [hvp]; rfl
  have e2 : thX h X = thrR h X := by unfold thX; rw [hv]; rfl
  have e3 : thX h X.reverse = thrR h X.reverse := by unfold thX; rw [hvr]; rfl
  rw [e1, e2, e3]
  exact ⟨hv, hp, hl, by unfold toH; rw [hv]; rfl, by unfold trX; rw [hv]; rfl, hs, by omega, by omega, by unfold rtC; rw [hvp]; rfl, by unfold rtC; rw [hv]; rfl, by unfold rtC; rw [hvr]; rfl⟩
/-- the row of the best routine's parts: what stands in the row of the routine, in another order -/
def rowO (Y : List (Value × Int)) (O : List Int) (k : Nat) : List (Value × Int) := (O.take k).map fun v => Y.getD v.toNat qZ
theorem rowO_succ {Y : List (Value × Int)} {O : List Int} {k : Nat} (hk : k < O.length) : rowO Y O (k + 1) = rowO Y O k ++ [Y.getD (oI O k) qZ] := by
  unfold rowO
  have e : O.take (k + 1) = O.take k ++ [O[k]] := by rw [List.take_add_one, List.getElem?_eq_getElem hk]; rfl
  have e2 : oI O k = O[k].toNat := by unfold oI; simp [List.getD, hk]
  rw [e, List.map_append, e2]
  rfl
theorem rowO_len {Y : List (Value × Int)} {O : List Int} {k : Nat} (hk : k ≤ O.length) : (rowO Y O k).length = k := by unfold rowO; simp; omega
theorem rowO_at {X : List Part2} {Y : List (Value × Int)} {O : List Int} {w : World} (hp : PathO X.length O) (h4 : ∀ i, i < X.length → (Y.getD i qZ).2 = (X.getD i pZ).2 ∧ RdI w (Y.getD i qZ).1 (X.getD i pZ).1) (i : Nat) (hi : i < (permX X O).length) :
    ((rowO Y O O.length).getD i qZ).2 = ((permX X O).getD i pZ).2 ∧ RdI w ((rowO Y O O.length).getD i qZ).1 ((permX X O).getD i pZ).1 := by
  rw [permX_len] at hi
  have e1 : (permX X O).getD i pZ = X.getD (oI O i) pZ := permX_at hi
  have e2 : (rowO Y O O.length).getD i qZ = Y.getD (oI O i) qZ := by
    unfold rowO oI
    rw [List.take_length]
    simp [List.getD, hi]
  rw [e1, e2]
  exact h4 _ (oI_lt hp hi).1
set_option maxHeartbeats 64000000 in
set_option maxRecDepth 100000 in
theorem walk (v0 : Value) (w : World) (a0 : Arg_bytes w v0) : Calls Try.prog 3 #[v0] w fun e w' => e = .returned (.bool true) ∧ Below w.heap.size w w' := by
  obtain ⟨bs, hb0⟩ := a0
  have HB0 := Lib.hid hb0
  obtain ⟨aa, ca, rfl, hla, -, -⟩ := hb0
  cases hlong : decide ((bs.length : Int) > 4096)
  rotate_left
  · go_enter Try.func3, Try.ntmps3
    go_wp2_with fail
    refine (c_laws_f6big _ _ _ _ (by omega)).mono ?_; rintro e w1 ⟨rfl, rfl⟩; rw [hlong]
    go_wp2
    go_ret
    exact ⟨rfl, by (repeat (first | (with_reducible assumption) | (with_reducible exact Below.refl _ _) | (with_reducible refine Below.setCell ?_ (by first | (simp; done) | (simp; omega)) _) | (with_reducible refine Below.al ?_ _) | (with_reducible refine Below.dr ?_) | (with_reducible refine Below.drN ?_ _) | (with_reducible refine Below.tr ?_ (by with_reducible assumption))))⟩
  go_enter Try.func3, Try.ntmps3
  go_wp2_with fail
  refine (c_laws_f6big _ _ _ _ (by omega)).mono ?_; rintro e w0 ⟨rfl, rfl⟩; rw [hlong]
  have BB : Below w.heap.size w w := Below.refl _ _
  go_wp2_with fail
  refine (c_spec_DrawShortestOrder bs _ _ HB0.out).mono ?_; rintro e w1 ⟨u, X, H, rfl, hr, hb1⟩
  replace BB := BB.tr hb1
  clear hb1
  have HR := Lib.hid hr
  obtain ⟨au, cu, rfl, hXl, -⟩ := hr
  obtain ⟨n, hn⟩ : ∃ n, X.length = n := ⟨_, rfl⟩
  have HN := Lib.hid hn
  rw [hn] at HR hXl ⊢
  clear hn
  have TA := VBox.new w1 26 (.int .i64 H) (.slice au n cu)
  have ha : Below w1.heap.size w1 (w1.alloc (Obj.cells #[.int .i64 H, .slice au n cu] 26)) := (Below.refl _ _).al _
  go_wp2_with fail
  have cA0 := TA.c0
  have cA1 := TA.c1
  replace HR := Lib.hid (HR.out.below ha)
  replace BB := BB.tr ha
  generalize (w1.alloc (Obj.cells #[.int .i64 H, .slice au n cu] 26)) = x1 at *
  obtain ⟨bA, hbe⟩ : ∃ b, w1.heap.size = b := ⟨_, rfl⟩
  rw [hbe] at TA cA0 cA1 ⊢
  clear ha hbe
  refine (c_impl_ShortestOrder X H _ _ HR.out).mono ?_; rintro e w2 ⟨u1, rfl, ho1, hb2⟩
  have HO1 := Lib.hid ho1.rd
  clear ho1
  replace TA := TA.below hb2
  replace cA0 := TA.c0
  replace cA1 := TA.c1
  replace HR := Lib.hid (HR.out.below hb2)
  replace BB := BB.tr hb2
  clear hb2
  obtain ⟨O, hO⟩ : ∃ O, soX H X = O := ⟨_, rfl⟩
  obtain ⟨L, hL⟩ : ∃ L, soL H X = L := ⟨_, rfl⟩
  obtain ⟨C, hC⟩ : ∃ C, soC H X = C := ⟨_, rfl⟩
  rw [hO] at HO1
  rw [hL, hC]
  obtain ⟨a1, m1, hu1, -, -⟩ := HO1.out
  subst hu1
  go_wp2_with fail
  refine (c_spec_ShortestOrder X H _ _ HR.out).mono ?_; rintro e w3 ⟨u2, rfl, ho2, hb3⟩
  rw [hO] at ho2
  rw [hL, hC]
  have HO2 := Lib.hid ho2.rd
  clear ho2
  obtain ⟨a2, m2, hu2, -, -⟩ := HO2.out
  subst hu2
  replace TA := TA.below hb3
  replace cA0 := TA.c0
  replace cA1 := TA.c1
  replace HR := Lib.hid (HR.out.below hb3)
  replace HO1 := Lib.hid (HO1.out.below hb3)
  replace BB := BB.tr hb3
  clear hb3
  have HO := Lib.hid hO
  have HL := Lib.hid hL
  have HC := Lib.hid hC
  clear hO hL hC
  obtain ⟨m, hm⟩ : ∃ m, O.length = m := ⟨_, rfl⟩
  have HM := Lib.hid hm
  rw [hm] at HO1 HO2 ⊢
  clear hm
  go_wp2_with fail
  refine (c_spec_DrawTurnRoutine bs _ _ (HB0.out.below BB)).mono ?_; rintro e w4 ⟨ut, Y, Ht, rfl, ht, hb4⟩
  have HTR := Lib.hid ht
  obtain ⟨at1, ct, rfl, hYl, -⟩ := ht
  obtain ⟨nt, hnt⟩ : ∃ n, Y.length = n := ⟨_, rfl⟩
  have HNT := Lib.hid hnt
  rw [hnt] at HTR ⊢
  clear hnt
  replace TA := TA.below hb4
  replace cA0 := TA.c0
  replace cA1 := TA.c1
  replace HR := Lib.hid (HR.out.below hb4)
  replace HO1 := Lib.hid (HO1.out.below hb4)
  replace HO2 := Lib.hid (HO2.out.below hb4)
  replace BB := BB.tr hb4
  clear hb4
  have TB := VBox.new w4 26 (.int .i64 Ht) (.slice at1 nt ct)
  have ha : Below w4.heap.size w4 (w4.alloc (Obj.cells #[.int .i64 Ht, .slice at1 nt ct] 26)) := (Below.refl _ _).al _
  have dA0 := keepc ha cA0
  have dA1 := keepc ha cA1
  go_wp2_with fail
  clear dA0 dA1
  have cB0 := TB.c0
  have cB1 := TB.c1
  replace TA := TA.below ha
  replace cA0 := TA.c0
  replace cA1 := TA.c1
  replace HR := Lib.hid (HR.out.below ha)
  replace HO1 := Lib.hid (HO1.out.below ha)
  replace HO2 := Lib.hid (HO2.out.below ha)
  replace HTR := Lib.hid (HTR.out.below ha)
  replace BB := BB.tr ha
  generalize (w4.alloc (Obj.cells #[.int .i64 Ht, .slice at1 nt ct] 26)) = x4 at *
  obtain ⟨bB, hbe⟩ : ∃ b, w4.heap.size = b := ⟨_, rfl⟩
  rw [hbe] at TB cB0 cB1 ⊢
  clear ha hbe
  refine (c_impl_TurnRoutine Y Ht _ _ HTR.out).mono ?_; rintro e w5 ⟨ux, rfl, hx, hb5⟩
  have HX := Lib.hid hx
  obtain ⟨ax, cx, rfl, -, -⟩ := hx
  obtain ⟨R1, hR1⟩ : ∃ R, rtC Ht Y = R := ⟨_, rfl⟩
  obtain ⟨H1, hH1⟩ : ∃ R, toH Ht Y = R := ⟨_, rfl⟩
  obtain ⟨Z1, hZ1⟩ : ∃ R, trX Ht Y = R := ⟨_, rfl⟩
  rw [hZ1] at HX ⊢
  rw [hR1, hH1]
  obtain ⟨n1, hn1⟩ : ∃ n, Z1.length = n := ⟨_, rfl⟩
  rw [hn1] at HX ⊢
  replace TA := TA.below hb5
  replace TB := TB.below hb5
  replace cA0 := TA.c0
  replace cA1 := TA.c1
  replace cB0 := TB.c0
  replace cB1 := TB.c1
  replace HR := Lib.hid (HR.out.below hb5)
  replace HO1 := Lib.hid (HO1.out.below hb5)
  replace HO2 := Lib.hid (HO2.out.below hb5)
  replace HTR := Lib.hid (HTR.out.below hb5)
  replace BB := BB.tr hb5
  clear hb5
  have TD := VBox.new w5 26 (.int .i64 H1) (.slice ax n1 cx)
  have ha : Below w5.heap.size w5 (w5.alloc (Obj.cells #[.int .i64 H1, .slice ax n1 cx] 26)) := (Below.refl _ _).al _
  have dA0 := keepc ha cA0
  have dA1 := keepc ha cA1
  have dB0 := keepc ha cB0
  have dB1 := keepc ha cB1
  go_wp2_with fail
  clear dA0 dA1 dB0 dB1
  have cD0 := TD.c0
  have cD1 := TD.c1
  replace TA := TA.below ha
  replace TB := TB.below ha
  replace cA0 := TA.c0
  replace cA1 := TA.c1
  replace cB0 := TB.c0
  replace cB1 := TB.c1
  replace HR := Lib.hid (HR.out.below ha)
  replace HO1 := Lib.hid (HO1.out.below ha)
  replace HO2 := Lib.hid (HO2.out.below ha)
  replace HTR := Lib.hid (HTR.out.below ha)
  replace HX := Lib.hid (HX.out.below ha)
  replace BB := BB.tr ha
  generalize (w5.alloc (Obj.cells #[.int .i64 H1, .slice ax n1 cx] 26)) = x5 at *
  obtain ⟨bD, hbe⟩ : ∃ b, w5.heap.size = b := ⟨_, rfl⟩
  rw [hbe] at TD cD0 cD1 ⊢
  clear ha hbe
  refine (c_spec_TurnRoutine Y Ht _ _ HTR.out).mono ?_; rintro e w6 ⟨uy, rfl, hy, hb6⟩
  rw [hZ1] at hy
  rw [hR1, hH1]
  have HY := Lib.hid hy
  obtain ⟨ay, cy, rfl, -, -⟩ := hy
  rw [hn1] at HY ⊢
  have HR1 := Lib.hid hR1
  have HH1 := Lib.hid hH1
  have HZ1 := Lib.hid hZ1
  have HN1 := Lib.hid hn1
  clear hR1 hH1 hZ1 hn1
  replace TA := TA.below hb6
  replace TB := TB.below hb6
  replace TD := TD.below hb6
  replace cA0 := TA.c0
  replace cA1 := TA.c1
  replace cB0 := TB.c0
  replace cB1 := TB.c1
  replace cD0 := TD.c0
  replace cD1 := TD.c1
  replace HR := Lib.hid (HR.out.below hb6)
  replace HO1 := Lib.hid (HO1.out.below hb6)
  replace HO2 := Lib.hid (HO2.out.below hb6)
  replace HTR := Lib.hid (HTR.out.below hb6)
  replace HX := Lib.hid (HX.out.below hb6)
  replace BB := BB.tr hb6
  clear hb6
  have TE := VBox.new w6 26 (.int .i64 H1) (.slice ay n1 cy)
  have ha : Below w6.heap.size w6 (w6.alloc (Obj.cells #[.int .i64 H1, .slice ay n1 cy] 26)) := (Below.refl _ _).al _
  have dA0 := keepc ha cA0
  have dA1 := keepc ha cA1
  have dB0 := keepc ha cB0
  have dB1 := keepc ha cB1
  have dD0 := keepc ha cD0
  have dD1 := keepc ha cD1
  go_wp2_with fail
  clear dA0 dA1 dB0 dB1 dD0 dD1
  have cE0 := TE.c0
  have cE1 := TE.c1
  replace TA := TA.below ha
  replace TB := TB.below ha
  replace TD := TD.below ha
  replace cA0 := TA.c0
  replace cA1 := TA.c1
  replace cB0 := TB.c0
  replace cB1 := TB.c1
  replace cD0 := TD.c0
  replace cD1 := TD.c1
  replace HR := Lib.hid (HR.out.below ha)
  replace HO1 := Lib.hid (HO1.out.below ha)
  replace HO2 := Lib.hid (HO2.out.below ha)
  replace HTR := Lib.hid (HTR.out.below ha)
  replace HX := Lib.hid (HX.out.below ha)
  replace HY := Lib.hid (HY.out.below ha)
  replace BB := BB.tr ha
  generalize (w6.alloc (Obj.cells #[.int .i64 H1, .slice ay n1 cy] 26)) = x6 at *
  obtain ⟨bE, hbe⟩ : ∃ b, w6.heap.size = b := ⟨_, rfl⟩
  rw [hbe] at TE cE0 cE1 ⊢
  clear ha hbe
  refine (c_spec_DrawAppendPart bs _ _ (HB0.out.below BB)).mono ?_; rintro e w7 ⟨us, S, Hs, z, zs, tm, rfl, hs, hz, hb7⟩
  have HS := Lib.hid hs
  have HZ := Lib.hid hz
  obtain ⟨as1, cs, rfl, -, -⟩ := hs
  obtain ⟨az, cz, rfl, -, -⟩ := hz
  obtain ⟨ns, hns⟩ : ∃ n, S.length = n := ⟨_, rfl⟩
  have HNS := Lib.hid hns
  obtain ⟨nz, hnz⟩ : ∃ n, zs.length = n := ⟨_, rfl⟩
  rw [hns] at HS ⊢
  rw [hnz] at HZ ⊢
  clear hns hnz
  replace TA := TA.below hb7
  replace TB := TB.below hb7
  replace TD := TD.below hb7
  replace TE := TE.below hb7
  replace cA0 := TA.c0
  replace cA1 := TA.c1
  replace cB0 := TB.c0
  replace cB1 := TB.c1
  replace cD0 := TD.c0
  replace cD1 := TD.c1
  replace cE0 := TE.c0
  replace cE1 := TE.c1
  replace HR := Lib.hid (HR.out.below hb7)
  replace HO1 := Lib.hid (HO1.out.below hb7)
  replace HO2 := Lib.hid (HO2.out.below hb7)
  replace HTR := Lib.hid (HTR.out.below hb7)
  replace HX := Lib.hid (HX.out.below hb7)
  replace HY := Lib.hid (HY.out.below hb7)
  replace BB := BB.tr hb7
  clear hb7
  obtain ⟨x7, hx7, TF, TG, ha⟩ := twoBox w7 26 34 (.int .i64 Hs) (.slice as1 ns cs) (.slice az nz cz) (.int .i64 tm)
  have cF0 := TF.c0
  have cF1 := TF.c1
  have cG0 := TG.c0
  have cG1 := TG.c1
  rw [hx7] at cF0 cF1 cG0 cG1
  go_wp2_with fail
  rw [← hx7] at cF0 cF1 cG0 cG1 ⊢
  clear hx7
  replace TA := TA.below ha
  replace TB := TB.below ha
  replace TD := TD.below ha
  replace TE := TE.below ha
  replace cA0 := TA.c0
  replace cA1 := TA.c1
  replace cB0 := TB.c0
  replace cB1 := TB.c1
  replace cD0 := TD.c0
  replace cD1 := TD.c1
  replace cE0 := TE.c0
  replace cE1 := TE.c1
  replace HR := Lib.hid (HR.out.below ha)
  replace HO1 := Lib.hid (HO1.out.below ha)
  replace HO2 := Lib.hid (HO2.out.below ha)
  replace HTR := Lib.hid (HTR.out.below ha)
  replace HX := Lib.hid (HX.out.below ha)
  replace HY := Lib.hid (HY.out.below ha)
  replace HS := Lib.hid (HS.out.below ha)
  replace HZ := Lib.hid (HZ.out.below ha)
  replace BB := BB.tr ha
  clear ha
  obtain ⟨bF, hbe⟩ : ∃ b, w7.heap.size = b := ⟨_, rfl⟩
  rw [hbe] at TF TG cF0 cF1 cG0 cG1 ⊢
  clear hbe
  refine (c_impl_AppendPart S Hs _ zs tm _ _ HS.out HZ.out).mono ?_; rintro e w8 ⟨uv, rfl, hv, hb8⟩
  have HV := Lib.hid hv
  obtain ⟨av, cv, rfl, -, -⟩ := hv
  obtain ⟨Q1, hQ1⟩ : ∃ R, apC Hs S (zs, tm) = R := ⟨_, rfl⟩
  obtain ⟨H2, hH2⟩ : ∃ R, apH Hs S (zs, tm) = R := ⟨_, rfl⟩
  obtain ⟨Z2, hZ2⟩ : ∃ R, apX Hs S (zs, tm) = R := ⟨_, rfl⟩
  rw [hZ2] at HV ⊢
  rw [hQ1, hH2]
  obtain ⟨n2, hn2⟩ : ∃ n, Z2.length = n := ⟨_, rfl⟩
  rw [hn2] at HV ⊢
  replace TA := TA.below hb8
  replace TB := TB.below hb8
  replace TD := TD.below hb8
  replace TE := TE.below hb8
  replace TF := TF.below hb8
  replace TG := TG.below hb8
  replace cA0 := TA.c0
  replace cA1 := TA.c1
  replace cB0 := TB.c0
  replace cB1 := TB.c1
  replace cD0 := TD.c0
  replace cD1 := TD.c1
  replace cE0 := TE.c0
  replace cE1 := TE.c1
  replace cF0 := TF.c0
  replace cF1 := TF.c1
  replace cG0 := TG.c0
  replace cG1 := TG.c1
  replace HR := Lib.hid (HR.out.below hb8)
  replace HO1 := Lib.hid (HO1.out.below hb8)
  replace HO2 := Lib.hid (HO2.out.below hb8)
  replace HTR := Lib.hid (HTR.out.below hb8)
  replace HX := Lib.hid (HX.out.below hb8)
  replace HY := Lib.hid (HY.out.below hb8)
  replace HS := Lib.hid (HS.out.below hb8)
  replace HZ := Lib.hid (HZ.out.below hb8)
  replace BB := BB.tr hb8
  clear hb8
  have TI := VBox.new w8 26 (.int .i64 H2) (.slice av n2 cv)
  have ha : Below w8.heap.size w8 (w8.alloc (Obj.cells #[.int .i64 H2, .slice av n2 cv] 26)) := (Below.refl _ _).al _
  have dA0 := keepc ha cA0
  have dA1 := keepc ha cA1
  have dB0 := keepc ha cB0
  have dB1 := keepc ha cB1
  have dD0 := keepc ha cD0
  have dD1 := keepc ha cD1
  have dE0 := keepc ha cE0
  have dE1 := keepc ha cE1
  have dF0 := keepc ha cF0
  have dF1 := keepc ha cF1
  have dG0 := keepc ha cG0
  have dG1 := keepc ha cG1
  go_wp2_with fail
  clear dA0 dA1 dB0 dB1 dD0 dD1 dE0 dE1 dF0 dF1 dG0 dG1
  have cI0 := TI.c0
  have cI1 := TI.c1
  replace TA := TA.below ha
  replace TB := TB.below ha
  replace TD := TD.below ha
  replace TE := TE.below ha
  replace TF := TF.below ha
  replace TG := TG.below ha
  replace cA0 := TA.c0
  replace cA1 := TA.c1
  replace cB0 := TB.c0
  replace cB1 := TB.c1
  replace cD0 := TD.c0
  replace cD1 := TD.c1
  replace cE0 := TE.c0
  replace cE1 := TE.c1
  replace cF0 := TF.c0
  replace cF1 := TF.c1
  replace cG0 := TG.c0
  replace cG1 := TG.c1
  replace HR := Lib.hid (HR.out.below ha)
  replace HO1 := Lib.hid (HO1.out.below ha)
  replace HO2 := Lib.hid (HO2.out.below ha)
  replace HTR := Lib.hid (HTR.out.below ha)
  replace HX := Lib.hid (HX.out.below ha)
  replace HY := Lib.hid (HY.out.below ha)
  replace HS := Lib.hid (HS.out.below ha)
  replace HZ := Lib.hid (HZ.out.below ha)
  replace HV := Lib.hid (HV.out.below ha)
  replace BB := BB.tr ha
  generalize (w8.alloc (Obj.cells #[.int .i64 H2, .slice av n2 cv] 26)) = x8 at *
  obtain ⟨bI, hbe⟩ : ∃ b, w8.heap.size = b := ⟨_, rfl⟩
  rw [hbe] at TI cI0 cI1 ⊢
  clear ha hbe
  refine (c_spec_AppendPart S Hs _ zs tm _ _ HS.out HZ.out).mono ?_; rintro e w9 ⟨uw, rfl, hw, hb9⟩
  rw [hZ2] at hw
  rw [hQ1, hH2]
  have HW := Lib.hid hw
  obtain ⟨aw, cw, rfl, -, -⟩ := hw
  rw [hn2] at HW ⊢
  have HN2 := Lib.hid hn2
  clear hQ1 hH2 hZ2 hn2
  replace TA := TA.below hb9
  replace TB := TB.below hb9
  replace TD := TD.below hb9
  replace TE := TE.below hb9
  replace TF := TF.below hb9
  replace TG := TG.below hb9
  replace TI := TI.below hb9
  replace cA0 := TA.c0
  replace cA1 := TA.c1
  replace cB0 := TB.c0
  replace cB1 := TB.c1
  replace cD0 := TD.c0
  replace cD1 := TD.c1
  replace cE0 := TE.c0
  replace cE1 := TE.c1
  replace cF0 := TF.c0
  replace cF1 := TF.c1
  replace cG0 := TG.c0
  replace cG1 := TG.c1
  replace cI0 := TI.c0
  replace cI1 := TI.c1
  replace HR := Lib.hid (HR.out.below hb9)
  replace HO1 := Lib.hid (HO1.out.below hb9)
  replace HO2 := Lib.hid (HO2.out.below hb9)
  replace HTR := Lib.hid (HTR.out.below hb9)
  replace HX := Lib.hid (HX.out.below hb9)
  replace HY := Lib.hid (HY.out.below hb9)
  replace HS := Lib.hid (HS.out.below hb9)
  replace HZ := Lib.hid (HZ.out.below hb9)
  replace HV := Lib.hid (HV.out.below hb9)
  replace BB := BB.tr hb9
  clear hb9
  clear TF TG cF0 cF1 cG0 cG1 HS HZ
  have t1 : (C != C) = false := by simp
  have t2 : (L != L) = false := by simp
  have t3 : (R1 != R1) = false := by simp
  have t4 : (Q1 != Q1) = false := by simp
  have TJ := VBox.new w9 26 (.int .i64 H2) (.slice aw n2 cw)
  have ha : Below w9.heap.size w9 (w9.alloc (Obj.cells #[.int .i64 H2, .slice aw n2 cw] 26)) := (Below.refl _ _).al _
  have dA0 := keepc ha cA0
  have dA1 := keepc ha cA1
  have dB0 := keepc ha cB0
  have dB1 := keepc ha cB1
  have dD0 := keepc ha cD0
  have dD1 := keepc ha cD1
  have dE0 := keepc ha cE0
  have dE1 := keepc ha cE1
  have dI0 := keepc ha cI0
  have dI1 := keepc ha cI1
  go_wp2_with fail
  clear dA0 dA1 dB0 dB1 dD0 dD1 dE0 dE1 dI0 dI1
  have cJ0 := TJ.c0
  have cJ1 := TJ.c1
  replace TA := TA.below ha
  replace TB := TB.below ha
  replace TD := TD.below ha
  replace TE := TE.below ha
  replace TI := TI.below ha
  replace cA0 := TA.c0
  replace cA1 := TA.c1
  replace cB0 := TB.c0
  replace cB1 := TB.c1
  replace cD0 := TD.c0
  replace cD1 := TD.c1
  replace cE0 := TE.c0
  replace cE1 := TE.c1
  replace cI0 := TI.c0
  replace cI1 := TI.c1
  replace HR := Lib.hid (HR.out.below ha)
  replace HO1 := Lib.hid (HO1.out.below ha)
  replace HO2 := Lib.hid (HO2.out.below ha)
  replace HTR := Lib.hid (HTR.out.below ha)
  replace HX := Lib.hid (HX.out.below ha)
  replace HY := Lib.hid (HY.out.below ha)
  replace HV := Lib.hid (HV.out.below ha)
  replace HW := Lib.hid (HW.out.below ha)
  replace BB := BB.tr ha
  generalize (w9.alloc (Obj.cells #[.int .i64 H2, .slice aw n2 cw] 26)) = x9 at *
  obtain ⟨bJ, hbe⟩ : ∃ b, w9.heap.size = b := ⟨_, rfl⟩
  rw [hbe] at TJ cJ0 cJ1 ⊢
  clear ha hbe
  refine (c_laws_f6ints O _ _ _ HO1.out HO2.out).mono ?_; rintro e w10 ⟨rfl, hb10⟩
  replace TA := TA.below hb10
  replace TB := TB.below hb10
  replace TD := TD.below hb10
  replace TE := TE.below hb10
  replace TI := TI.below hb10
  replace TJ := TJ.below hb10
  replace cA0 := TA.c0
  replace cA1 := TA.c1
  replace cB0 := TB.c0
  replace cB1 := TB.c1
  replace cD0 := TD.c0
  replace cD1 := TD.c1
  replace cE0 := TE.c0
  replace cE1 := TE.c1
  replace cI0 := TI.c0
  replace cI1 := TI.c1
  replace cJ0 := TJ.c0
  replace cJ1 := TJ.c1
  replace HR := Lib.hid (HR.out.below hb10)
  replace HO1 := Lib.hid (HO1.out.below hb10)
  replace HO2 := Lib.hid (HO2.out.below hb10)
  replace HTR := Lib.hid (HTR.out.below hb10)
  replace HX := Lib.hid (HX.out.below hb10)
  replace HY := Lib.hid (HY.out.below hb10)
  replace HV := Lib.hid (HV.out.below hb10)
  replace HW := Lib.hid (HW.out.below hb10)
  replace BB := BB.tr hb10
  clear hb10
  go_wp2_with fail
  refine (c_spec_SameRoutine Z1 H1 _ _ _ HX.out HY.out).mono ?_; rintro e w11 ⟨rfl, hb11⟩
  replace TA := TA.below hb11
  replace TB := TB.below hb11
  replace TD := TD.below hb11
  replace TE := TE.below hb11
  replace TI := TI.below hb11
  replace TJ := TJ.below hb11
  replace cA0 := TA.c0
  replace cA1 := TA.c1
  replace cB0 := TB.c0
  replace cB1 := TB.c1
  replace cD0 := TD.c0
  replace cD1 := TD.c1
  replace cE0 := TE.c0
  replace cE1 := TE.c1
  replace cI0 := TI.c0
  replace cI1 := TI.c1
  replace cJ0 := TJ.c0
  replace cJ1 := TJ.c1
  replace HR := Lib.hid (HR.out.below hb11)
  replace HO1 := Lib.hid (HO1.out.below hb11)
  replace HO2 := Lib.hid (HO2.out.below hb11)
  replace HTR := Lib.hid (HTR.out.below hb11)
  replace HX := Lib.hid (HX.out.below hb11)
  replace HY := Lib.hid (HY.out.below hb11)
  replace HV := Lib.hid (HV.out.below hb11)
  replace HW := Lib.hid (HW.out.below hb11)
  replace BB := BB.tr hb11
  clear hb11
  go_wp2_with fail
  refine (c_spec_SameRoutine Z2 H2 _ _ _ HV.out HW.out).mono ?_; rintro e w12 ⟨rfl, hb12⟩
  replace TA := TA.below hb12
  replace TB := TB.below hb12
  replace TD := TD.below hb12
  replace TE := TE.below hb12
  replace TI := TI.below hb12
  replace TJ := TJ.below hb12
  replace cA0 := TA.c0
  replace cA1 := TA.c1
  replace cB0 := TB.c0
  replace cB1 := TB.c1
  replace cD0 := TD.c0
  replace cD1 := TD.c1
  replace cE0 := TE.c0
  replace cE1 := TE.c1
  replace cI0 := TI.c0
  replace cI1 := TI.c1
  replace cJ0 := TJ.c0
  replace cJ1 := TJ.c1
  replace HR := Lib.hid (HR.out.below hb12)
  replace HO1 := Lib.hid (HO1.out.below hb12)
  replace HO2 := Lib.hid (HO2.out.below hb12)
  replace HTR := Lib.hid (HTR.out.below hb12)
  replace HX := Lib.hid (HX.out.below hb12)
  replace HY := Lib.hid (HY.out.below hb12)
  replace HV := Lib.hid (HV.out.below hb12)
  replace HW := Lib.hid (HW.out.below hb12)
  replace BB := BB.tr hb12
  clear hb12
  clear TE TI TJ cE0 cE1 cI0 cI1 cJ0 cJ1 HY HV HW HO1 t1 t2 t3 t4
  by_cases hR0 : R1 = 0
  rotate_left
  · have tR : (R1 == 0) = false := beq_eq_false_iff_ne.2 hR0
    clear TB TD cB0 cB1 cD0 cD1 HTR HX hR0
    by_cases hC0 : C = 0
    rotate_left
    · have tC : (C != 0) = true := by simpa using hC0
      go_wp2
      go_ret
      exact ⟨rfl, BB⟩
    subst hC0
    obtain ⟨hv, hp, hl, eH, eX, hs, hle1, hle2, hc1, hc2, hc3⟩ := so_facts HC.out
    rw [HO.out] at hp hl hs hle1 hle2 hc1
    rw [HL.out] at hs
    have hmn : m = n := by rw [← HM.out, ← HN.out]; exact hl
    subst hmn
    rw [HN.out] at hp
    have hn8 := (rout_ok hv).hl
    rw [HN.out] at hn8
    obtain ⟨lb, hlb⟩ : ∃ a, ((thX H X).length : Int) = a := ⟨_, rfl⟩
    obtain ⟨lc, hlc⟩ : ∃ a, ((thX H X.reverse).length : Int) = a := ⟨_, rfl⟩
    rw [← hs] at hle1 hle2
    rw [hlb] at hle1
    rw [hlc] at hle2
    have HP := Lib.hid hp
    have HA0 := Lib.hid hs.symm
    have HB0' := Lib.hid hlb
    have HC0 := Lib.hid hlc
    have HC1 := Lib.hid hc1
    have HC2 := Lib.hid hc2
    have HC3 := Lib.hid hc3
    have HEH := Lib.hid eH
    have HEX := Lib.hid eX
    clear hv hp hl eH eX hc1 hc2 hc3 hs hlb hlc
    obtain ⟨RX, hRX1, hRX2, -, hRX4⟩ := rdP_rows HR.out
    have HRX1 := Lib.hid hRX1
    have HRX2 := Lib.hid hRX2
    have HRX4 := Lib.hid hRX4
    clear hRX1 hRX2 hRX4
    have TP := VBox.new w12 26 (.int .i64 H) (.slice none 0 0)
    have ha : Below w12.heap.size w12 (w12.alloc (Obj.cells #[.int .i64 H, .slice none 0 0] 26)) := (Below.refl _ _).al _
    have dA0 := keepc ha cA0
    have dA1 := keepc ha cA1
    go_wp2_with (at_make; (generalize (w12.alloc (Obj.cells #[.int .i64 H, .slice none 0 0] 26)) = wb at *); refine make_bool rfl _ _ _ _ rfl Try.underlying40 infoB wb.heap.size _ _ _ _ _ m rfl rfl rfl rfl (by omega) (Nat.le_refl _) ?_; intro wc hbools hbel hsz)
    have hbc : Below wb.heap.size wb wc := hbel wb (Below.refl _ _)
    have TC := TP.below hbc
    have hPl := TP.lt
    obtain ⟨bP, hbP⟩ : ∃ b, w12.heap.size = b := ⟨_, rfl⟩
    have HBP := Lib.hid hbP
    rw [hbP] at TC hPl ha ⊢
    obtain ⟨GS, hGS⟩ : ∃ b, wb.heap.size = b := ⟨_, rfl⟩
    rw [hGS] at hbools hPl hbc hsz ⊢
    have B0 : Below bP w12 wc := ha.trans (hbc.mono (by omega))
    clear hbel TP dA0 dA1 hbP hGS ha hbc
    go_loopw [25] (fun i wr => ∃ (k : Nat) (v : Value), k ≤ m ∧ i = .int .i64 k ∧ VBox wr bP (.int .i64 H) v ∧ OwnRow 34 2 rowQ (GS + 1) wr.heap.size wr v (rowO RX O k) ∧ BoolsAt wr GS m (seenF O k) ∧ GS < wr.heap.size ∧ Below bP w12 wr) (fun i _ => m - (intOf i).toNat)
    case atStart => exact ⟨0, _, by omega, by go_num, TC, OwnRow.nil _ rfl, hbools, hsz, B0⟩
    case round =>
      clear hbools TC hsz B0
      obtain ⟨k, v, hk, rfl, TP, hY, hbo, hGo, BR'⟩ := hrel
      obtain ⟨wo, rfl⟩ : ∃ wo : World, wo = wr := ⟨_, rfl⟩
      have BR : Below w12.heap.size w12 wo := by rw [HBP.out]; exact BR'
      have hOl : O.length = m := HM.out
      have hXl2 : X.length = m := HN.out
      obtain ⟨av, cv, hvv, -, -⟩ := hY.rd rowQ_len
      rw [rowO_len (by omega)] at hvv
      subst hvv
      have cP1 := TP.c1
      by_cases hlt : k < m
      · have hkO : k < O.length := by omega
        obtain ⟨hA, hOk⟩ := oI_lt HP.out hkO
        have hseen := seenF_not HP.out hkO k (Nat.le_refl _)
        have HST : Hid (∀ v, (if v = oI O k then true else seenF O k v) = seenF O (k + 1) v) := fun v => rfl
        have HRO := Lib.hid (rowO_succ (Y := RX) hkO)
        obtain ⟨A, eA⟩ : ∃ A, oI O k = A := ⟨_, rfl⟩
        rw [eA] at hA hOk hseen HST HRO
        obtain ⟨_, _, he, -, hc⟩ := HO2.out
        rw [hOl] at he
        cases he
        obtain ⟨b2, o2, he2, y0⟩ := hc k hkO
        subst he2
        rw [hOk] at y0
        obtain ⟨_, _, he3, -, hc3⟩ := HRX2.out
        have hARX : A < RX.length := by rw [HRX1.out, hXl2]; exact hA
        obtain ⟨bx, ox, he4, hx⟩ := hc3 A hARX
        rw [HRX1.out, hXl2] at he3
        cases he3
        subst he4
        obtain ⟨-, hpr⟩ := HRX4.out A (by omega)
        obtain ⟨ap, cp, hpv, -, -⟩ := hpr
        obtain ⟨tq, htq⟩ : ∃ t, (RX.getD A qZ).2 = t := ⟨_, rfl⟩
        have eRX : RX.getD A qZ = RX[A] := by simp [List.getD, hARX]
        rw [eRX] at hpv htq HRO
        obtain ⟨lp, hlp⟩ : ∃ l, (X.getD A pZ).1.length = l := ⟨_, rfl⟩
        rw [hlp] at hpv
        have z0 := hx 0 _ rfl
        have z1 := hx 1 _ rfl
        rw [hpv, Nat.add_zero] at z0
        rw [htq] at z1
        have HEP : Hid (RX[A] = (Value.slice ap lp cp, tq)) := by unfold Hid; rw [← hpv, ← htq]
        rw [HEP.out] at HRO
        have lb2 : b2 < bP := by rw [← HBP.out]; exact World.block_lt_of_cell? _ _ y0
        have lbx : bx < bP := by rw [← HBP.out]; exact World.block_lt_of_cell? _ _ z0
        have lbA : bA < bP := by rw [← HBP.out]; exact TA.lt
        have r1 := keepc BR cA1
        replace y0 := keepc BR y0
        replace z0 := keepc BR z0
        replace z1 := keepc BR z1
        obtain ⟨sA, fA⟩ := hbo A hA
        rw [hseen] at sA
        have hbo2 := hbo.store A hA true
        have hbo3 : BoolsAt (wo.setCell ⟨GS, A, none⟩ (.bool true)) GS m (seenF O (k + 1)) := fun v hv => by rw [← HST.out v]; exact hbo2 v hv
        have hset : wo.grownBy (wo.setCell ⟨GS, A, none⟩ (.bool true)) (some GS) := grownBy_setCells wo GS [.bool true] A
        have TPs := TP.grown hset (by simp only [ne_eq, Option.some.injEq]; omega)
        have hYs := hY.upd (Upd.of_grown (lo := GS) (hi := GS + 1) hset (fun q hq => by simp only [Option.some.injEq] at hq; omega)) (Or.inr (Nat.le_refl _))
        have BRs := BR'.grown hset (by omega) (fun q hq => by simp only [Option.some.injEq] at hq; omega)
        have r1s := grown_c hset r1 (by simp only [ne_eq, Option.some.injEq]; omega)
        have y0s := grown_c hset y0 (by simp only [ne_eq, Option.some.injEq]; omega)
        have z0s := grown_c hset z0 (by simp only [ne_eq, Option.some.injEq]; omega)
        have z1s := grown_c hset z1 (by simp only [ne_eq, Option.some.injEq]; omega)
        have hss := hset.size
        have hin0 : (0 : Int) ≤ (k : Int) := Int.natCast_nonneg _
        have hin1 : (k : Int) < (m : Int) := by omega
        have hin2 : (0 : Int) ≤ (A : Int) := Int.natCast_nonneg _
        have hin3 : (A : Int) < (m : Int) := by omega
        clear HEP
        clear hbo hbo2 hc hc3 hx hseen eA eRX htq hpv hlp hset hOk hOl hXl2 hY TP hkO hARX
        go_wp2_with fail
        clear y0 z0 z1 r1 sA fA cP1
        generalize (wo.setCell ⟨GS, A, none⟩ (.bool true)) = ws at *
        have cod : ws.drew.cell? ⟨bP, 1, none⟩ = some (.slice av k cv) := TPs.c1
        have fbd : ws.drew.cell? ⟨bA, 1, none⟩ = some (.slice (some ⟨bx, ox, none⟩) m cu) ∧ ws.drew.cell? ⟨b2, o2 + k, none⟩ = some (.int .i64 (A : Int)) ∧ ws.drew.cell? ⟨bx, ox + A * 2, none⟩ = some (.slice ap lp cp) ∧ ws.drew.cell? ⟨bx, ox + A * 2 + 1, none⟩ = some (.int .i64 tq) := ⟨r1s, y0s, z0s, z1s⟩
        
        refine wp_region_noPanic ?_; refine wp_region_L (S := untilL 11 13 (fun w' => w'.cell? ⟨bP, 1, none⟩ = some (.slice av k cv)) (fun w' => w'.cell? ⟨bA, 1, none⟩ = some (.slice (some ⟨bx, ox, none⟩) m cu) ∧ w'.cell? ⟨b2, o2 + k, none⟩ = some (.int .i64 (A : Int)) ∧ w'.cell? ⟨bx, ox + A * 2, none⟩ = some (.slice ap lp cp) ∧ w'.cell? ⟨bx, ox + A * 2 + 1, none⟩ = some (.int .i64 tq))) (by kernel_rfl) ?_
        (refine wpAnyL_take (S0 := (fun _ => True)) (i := 0) (q := 1) (v := ?lv1) rfl rfl (by kernel_rfl) (by kernel_rfl) (by kernel_rfl) (by kernel_rfl) (by kernel_rfl) (fun _ _ _ h => h) (fun _ _ _ _ => True.intro) (untilL_set (by decide) (by decide)) (Or.inl ⟨by rfl, ?lhy1⟩) ⟨fun _ => cod, fun _ => fbd⟩ ?lrest1; case lhy1 => (intro w hSw; (try dsimp only at hSw); go_simp; (try with_reducible rfl)); (try simp only [Act.put, List.getElem_toArray, List.getElem_cons_zero, List.getElem_cons_succ, List.setIfInBounds_toArray, List.set_cons_zero, List.set_cons_succ])); (refine wpAnyL_take (S0 := (fun w' => w'.cell? ⟨bP, 1, none⟩ = some (.slice av k cv))) (i := 1) (q := 11) (v := ?lv2) rfl rfl (by kernel_rfl) (by kernel_rfl) (by kernel_rfl) (by kernel_rfl) (by kernel_rfl) (fun _ _ _ h => h) (fun _ _ hq hS => hS.1 hq) (untilL_set (by decide) (by decide)) (Or.inl ⟨by rfl, ?lhy2⟩) ⟨fun _ => cod, fun _ => fbd⟩ ?lrest2; case lhy2 => (intro w hSw; (try dsimp only at hSw); go_simp; (try with_reducible rfl)); (try simp only [Act.put, List.getElem_toArray, List.getElem_cons_zero, List.getElem_cons_succ, List.setIfInBounds_toArray, List.set_cons_zero, List.set_cons_succ])); (refine wpAnyL_take (S0 := (fun _ => True)) (i := 2) (q := 3) (v := ?lv3) rfl rfl (by kernel_rfl) (by kernel_rfl) (by kernel_rfl) (by kernel_rfl) (by kernel_rfl) (fun _ _ _ h => h) (fun _ _ _ _ => True.intro) (untilL_set (by decide) (by decide)) (Or.inl ⟨by rfl, ?lhy3⟩) ⟨fun _ => cod, fun _ => fbd⟩ ?lrest3; case lhy3 => (intro w hSw; (try dsimp only at hSw); go_simp; (try with_reducible rfl)); (try simp only [Act.put, List.getElem_toArray, List.getElem_cons_zero, List.getElem_cons_succ, List.setIfInBounds_toArray, List.set_cons_zero, List.set_cons_succ])); (refine wpAnyL_take (S0 := (fun w' => w'.cell? ⟨bA, 1, none⟩ = some (.slice (some ⟨bx, ox, none⟩) m cu) ∧ w'.cell? ⟨b2, o2 + k, none⟩ = some (.int .i64 (A : Int)) ∧ w'.cell? ⟨bx, ox + A * 2, none⟩ = some (.slice ap lp cp) ∧ w'.cell? ⟨bx, ox + A * 2 + 1, none⟩ = some (.int .i64 tq))) (i := 3) (q := 13) (v := ?lv4) rfl rfl (by kernel_rfl) (by kernel_rfl) (by kernel_rfl) (by kernel_rfl) (by kernel_rfl) (fun _ _ _ h => h) (fun _ _ hq hS => hS.2 hq) (untilL_set (by decide) (by decide)) (Or.inl ⟨by rfl, ?lhy4⟩) ⟨fun _ => cod, fun _ => fbd⟩ ?lrest4; case lhy4 => (intro w hSw; (try dsimp only at hSw); go_simp; (try with_reducible rfl)); (try simp only [Act.put, List.getElem_toArray, List.getElem_cons_zero, List.getElem_cons_succ, List.setIfInBounds_toArray, List.set_cons_zero, List.set_cons_succ])); (refine wpAnyL_take (S0 := (fun _ => True)) (i := 4) (q := 6) (v := ?lv5) rfl rfl (by kernel_rfl) (by kernel_rfl) (by kernel_rfl) (by kernel_rfl) (by kernel_rfl) (fun _ _ _ h => h) (fun _ _ _ _ => True.intro) (untilL_set (by decide) (by decide)) (Or.inl ⟨by rfl, ?lhy5⟩) ⟨fun _ => cod, fun _ => fbd⟩ ?lrest5; case lhy5 => (intro w hSw; (try dsimp only at hSw); go_simp; (try with_reducible rfl)); (try simp only [Act.put, List.getElem_toArray, List.getElem_cons_zero, List.getElem_cons_succ, List.setIfInBounds_toArray, List.set_cons_zero, List.set_cons_succ])); (refine wpAnyL_take (S0 := (fun _ => True)) (i := 5) (q := 6) (v := ?lv6) rfl rfl (by kernel_rfl) (by kernel_rfl) (by kernel_rfl) (by kernel_rfl) (by kernel_rfl) (fun _ _ _ h => h) (fun _ _ _ _ => True.intro) (untilL_set (by decide) (by decide)) (Or.inl ⟨by rfl, ?lhy6⟩) ⟨fun _ => cod, fun _ => fbd⟩ ?lrest6; case lhy6 => (intro w hSw; (try dsimp only at hSw); go_simp; (try with_reducible rfl)); (try simp only [Act.put, List.getElem_toArray, List.getElem_cons_zero, List.getElem_cons_succ, List.setIfInBounds_toArray, List.set_cons_zero, List.set_cons_succ])); (refine wpAnyL_take (S0 := (fun _ => True)) (i := 6) (q := 7) (v := ?lv7) rfl rfl (by kernel_rfl) (by kernel_rfl) (by kernel_rfl) (by kernel_rfl) (by kernel_rfl) (fun _ _ _ h => h) (fun _ _ _ _ => True.intro) (untilL_set (by decide) (by decide)) (Or.inl ⟨by rfl, ?lhy7⟩) ⟨fun _ => cod, fun _ => fbd⟩ ?lrest7; case lhy7 => (intro w hSw; (try dsimp only at hSw); go_simp; (try with_reducible rfl)); (try simp only [Act.put, List.getElem_toArray, List.getElem_cons_zero, List.getElem_cons_succ, List.setIfInBounds_toArray, List.set_cons_zero, List.set_cons_succ])); (refine wpAnyL_take (S0 := (fun w' => w'.cell? ⟨bA, 1, none⟩ = some (.slice (some ⟨bx, ox, none⟩) m cu) ∧ w'.cell? ⟨b2, o2 + k, none⟩ = some (.int .i64 (A : Int)) ∧ w'.cell? ⟨bx, ox + A * 2, none⟩ = some (.slice ap lp cp) ∧ w'.cell? ⟨bx, ox + A * 2 + 1, none⟩ = some (.int .i64 tq))) (i := 7) (q := 13) (v := ?lv8) rfl rfl (by kernel_rfl) (by kernel_rfl) (by kernel_rfl) (by kernel_rfl) (by kernel_rfl) (fun _ _ _ h => h) (fun _ _ hq hS => hS.2 hq) (untilL_set (by decide) (by decide)) (Or.inl ⟨by rfl, ?lhy8⟩) ⟨fun _ => cod, fun _ => fbd⟩ ?lrest8; case lhy8 => (intro w hSw; (try dsimp only at hSw); go_simp; (try with_reducible rfl)); (try simp only [Act.put, List.getElem_toArray, List.getElem_cons_zero, List.getElem_cons_succ, List.setIfInBounds_toArray, List.set_cons_zero, List.set_cons_succ])); (refine wpAnyL_take (S0 := (fun _ => True)) (i := 8) (q := 9) (v := ?lv9) rfl rfl (by kernel_rfl) (by kernel_rfl) (by kernel_rfl) (by kernel_rfl) (by kernel_rfl) (fun _ _ _ h => h) (fun _ _ _ _ => True.intro) (untilL_set (by decide) (by decide)) (Or.inl ⟨by rfl, ?lhy9⟩) ⟨fun _ => cod, fun _ => fbd⟩ ?lrest9; case lhy9 => (intro w hSw; (try dsimp only at hSw); go_simp; (try with_reducible rfl)); (try simp only [Act.put, List.getElem_toArray, List.getElem_cons_zero, List.getElem_cons_succ, List.setIfInBounds_toArray, List.set_cons_zero, List.set_cons_succ])); (refine wpAnyL_take (S0 := (fun w' => w'.cell? ⟨bA, 1, none⟩ = some (.slice (some ⟨bx, ox, none⟩) m cu) ∧ w'.cell? ⟨b2, o2 + k, none⟩ = some (.int .i64 (A : Int)) ∧ w'.cell? ⟨bx, ox + A * 2, none⟩ = some (.slice ap lp cp) ∧ w'.cell? ⟨bx, ox + A * 2 + 1, none⟩ = some (.int .i64 tq))) (i := 9) (q := 13) (v := ?lv10) rfl rfl (by kernel_rfl) (by kernel_rfl) (by kernel_rfl) (by kernel_rfl) (by kernel_rfl) (fun _ _ _ h => h) (fun _ _ hq hS => hS.2 hq) (untilL_set (by decide) (by decide)) (Or.inl ⟨by rfl, ?lhy10⟩) ⟨fun _ => cod, fun _ => fbd⟩ ?lrest10; case lhy10 => (intro w hSw; (try dsimp only at hSw); go_simp; (try with_reducible rfl)); (try simp only [Act.put, List.getElem_toArray, List.getElem_cons_zero, List.getElem_cons_succ, List.setIfInBounds_toArray, List.set_cons_zero, List.set_cons_succ]))
        refine wpAnyL_ready (rs := [10]) (by kernel_rfl) (by simp) ?_; refine AllReadyL.cons (i := 10) rfl (fun K hK => ?_) AllReadyL.nil
        go_simp
        have hb8 : Below ws.heap.size ws (ws.alloc (Obj.cells #[.slice ap lp cp, .int .i64 tq] 34)).drew := ((Below.refl _ _).al _).dr
        have co8 : (ws.alloc (Obj.cells #[.slice ap lp cp, .int .i64 tq] 34)).drew.cell? ⟨bP, 1, none⟩ = some (.slice av k cv) := keepc hb8 TPs.c1
        have fb8 : (ws.alloc (Obj.cells #[.slice ap lp cp, .int .i64 tq] 34)).drew.cell? ⟨bA, 1, none⟩ = some (.slice (some ⟨bx, ox, none⟩) m cu) ∧ (ws.alloc (Obj.cells #[.slice ap lp cp, .int .i64 tq] 34)).drew.cell? ⟨b2, o2 + k, none⟩ = some (.int .i64 (A : Int)) ∧ (ws.alloc (Obj.cells #[.slice ap lp cp, .int .i64 tq] 34)).drew.cell? ⟨bx, ox + A * 2, none⟩ = some (.slice ap lp cp) ∧ (ws.alloc (Obj.cells #[.slice ap lp cp, .int .i64 tq] 34)).drew.cell? ⟨bx, ox + A * 2 + 1, none⟩ = some (.int .i64 tq) := ⟨keepc hb8 r1s, keepc hb8 y0s, keepc hb8 z0s, keepc hb8 z1s⟩
        
        refine hK.out _ _ ⟨(fun _ => co8), (fun _ => fb8)⟩ (fun hHeld => ?_); clear hK K; (try simp only [Act.put, List.getElem_toArray, List.getElem_cons_zero, List.getElem_cons_succ, List.setIfInBounds_toArray, List.set_cons_zero, List.set_cons_succ])
        refine wpAnyL_ready (rs := [11]) (by kernel_rfl) (by simp) ?_; refine AllReadyL.cons (i := 11) rfl (fun K hK => ?_) AllReadyL.nil
        refine step_push_row (row := rowQ) rfl _ _ _ _ rfl Try.underlying24 (.agg #[.slice none 0 0, .int .i64 0]) 32 infoQ rfl (by decide) (by decide) rowQ_len (GS + 1) wo.heap.size ws.heap.size (.slice av k cv) (rowO RX O k) (.slice ap lp cp, tq) #[.slice ap lp cp, .int .i64 tq] _ rfl (fun u hu => by simp only [rowQ, List.mem_cons, List.not_mem_nil, or_false] at hu; rcases hu with rfl | rfl <;> rfl) rfl rfl (heap_alloc_new ws _) (by exact hYs.al _) (by rw [rowO_len (by have := HM.out; omega)]; omega) (by have := hb8.size; omega) ?_
        intro v' w' ho' hg' hat' hs'
        rw [← HRO.out] at ho'
        have hlv : ∀ n, Value.ownBlock (.slice av k cv) = some n → GS + 1 ≤ n := fun n e => (World.ownsRow.lt hYs.1 n e).1
        have TP' := (TPs.below hb8).grown hg' (fun e => by have := hlv bP e; omega)
        have hbo' : BoolsAt w' GS m (seenF O (k + 1)) := fun q hq => by
          obtain ⟨h1, h2⟩ := (hbo3.below hb8) q hq
          exact ⟨grown_c hg' h1 (fun e => by have := hlv GS e; omega), grown_f hg' h1 h2 (fun e => by have := hlv GS e; omega)⟩
        have B8 : Below bP w12 (ws.alloc (Obj.cells #[.slice ap lp cp, .int .i64 tq] 34)).drew := BRs.trans (hb8.mono (by omega))
        have hs8 := hb8.size
        have B' := B8.grown hg' (by omega) (fun n e => by have := hlv n e; omega)
        have fb9 : w'.cell? ⟨bA, 1, none⟩ = some (.slice (some ⟨bx, ox, none⟩) m cu) ∧ w'.cell? ⟨b2, o2 + k, none⟩ = some (.int .i64 (A : Int)) ∧ w'.cell? ⟨bx, ox + A * 2, none⟩ = some (.slice ap lp cp) ∧ w'.cell? ⟨bx, ox + A * 2 + 1, none⟩ = some (.int .i64 tq) := ⟨grown_c hg' fb8.1 (fun e => by have := hlv _ e; omega), grown_c hg' fb8.2.1 (fun e => by have := hlv _ e; omega), grown_c hg' fb8.2.2.1 (fun e => by have := hlv _ e; omega), grown_c hg' fb8.2.2.2 (fun e => by have := hlv _ e; omega)⟩
        obtain ⟨a9, c9, hv9, -, -⟩ := ho'.rd rowQ_len
        rw [rowO_len (by have := HM.out; omega)] at hv9
        subst hv9
        obtain ⟨TZ, gz⟩ := TP'.set1 (.slice a9 (k + 1) c9)
        have hYz := (ho'.upd (Upd.of_grown (lo := bP) (hi := bP + 1) gz (fun q hq => by simp only [Option.some.injEq] at hq; omega)) (Or.inr (by omega))).tight
        have hboz : BoolsAt (w'.setCell ⟨bP, 1, none⟩ (.slice a9 (k + 1) c9)) GS m (seenF O (k + 1)) := fun q hq => by
          obtain ⟨h1, h2⟩ := hbo' q hq
          exact ⟨grown_c gz h1 (by simp only [ne_eq, Option.some.injEq]; omega), grown_f gz h1 h2 (by simp only [ne_eq, Option.some.injEq]; omega)⟩
        have BZ := B'.grown gz (by omega) (fun n e => by simp only [Option.some.injEq] at e; omega)
        have hGz : GS < (w'.setCell ⟨bP, 1, none⟩ (.slice a9 (k + 1) c9)).heap.size := Nat.lt_of_lt_of_le (by omega) gz.size
        have b0' := TP'.c0
        have b1' := TP'.c1
        have bf1' := TP'.f1
        
        refine hK.out _ _ ⟨(fun h => Bool.noConfusion (show true = false from h)), (fun _ => fb9)⟩ (fun hHeld => ?_); clear hK K; (try simp only [Act.put, List.getElem_toArray, List.getElem_cons_zero, List.getElem_cons_succ, List.setIfInBounds_toArray, List.set_cons_zero, List.set_cons_succ])
        
        (refine wpAnyL_take (S0 := (fun _ => True)) (i := 12) (q := 13) (v := ?lv11) rfl rfl (by kernel_rfl) (by kernel_rfl) (by kernel_rfl) (by kernel_rfl) (by kernel_rfl) (fun _ _ _ h => h) (fun _ _ _ _ => True.intro) (untilL_set (by decide) (by decide)) (Or.inl ⟨by rfl, ?lhy11⟩) ⟨(fun h => Bool.noConfusion (show true = false from h)), fun _ => fb9⟩ ?lrest11; case lhy11 => (intro w hSw; (try dsimp only at hSw); go_simp; (try with_reducible rfl)); (try simp only [Act.put, List.getElem_toArray, List.getElem_cons_zero, List.getElem_cons_succ, List.setIfInBounds_toArray, List.set_cons_zero, List.set_cons_succ]))
        refine wpAnyL_ready (rs := [13]) (by kernel_rfl) (by simp) ?_; refine AllReadyL.cons (i := 13) rfl (fun K hK => ?_) AllReadyL.nil
        go_simp
        refine hK.out _ _ ⟨(fun h => Bool.noConfusion (show true = false from h)), (fun h => Bool.noConfusion (show true = false from h))⟩ (fun hHeld => ?_); clear hK K; (try simp only [Act.put, List.getElem_toArray, List.getElem_cons_zero, List.getElem_cons_succ, List.setIfInBounds_toArray, List.set_cons_zero, List.set_cons_succ])
        refine wpAnyL_done (by kernel_rfl) ?_ _; refine NoPanic.normal ?_
        clear b0' b1' bf1'
        generalize w'.setCell ⟨bP, 1, none⟩ (.slice a9 (k + 1) c9) = wz at *
        go_wp2
        go_roundw
        case rel => exact ⟨k + 1, _, by omega, by go_num, TZ, hYz, hboz, hGz, BZ⟩
        case measure => (simp [intOf] <;> omega)
      · have hkm : k = m := by omega
        subst hkm
        have hrow := rdP_of_row (X := permX X O) (Y := rowO RX O O.length) (w := wo) (by rw [rowO_len (Nat.le_refl _), permX_len]) (by rw [hOl]; exact hY.rd rowQ_len) (fun i hi => by
          have h := rowO_at (w := w12) (by rw [hXl2]; exact HP.out) HRX4.out i hi
          exact ⟨h.1, h.2.below BR⟩)
        have HBEST := Lib.hid hrow
        replace TA := TA.below BR
        replace cA0 := TA.c0
        replace cA1 := TA.c1
        replace HR := Lib.hid (HR.out.below BR)
        replace BB := BB.tr BR
        have cP0 := TP.c0
        clear hbo hY hrow HRX1 HRX2 HRX4 hOl hXl2 hGo
        go_wp2_with fail
        refine (c_spec_TurnRoutine X H _ _ HR.out).mono ?_; rintro e y1 ⟨ur, rfl, hur, hb1⟩
        rw [HEH.out, HC2.out]
        rw [HEX.out] at hur
        have HREV := Lib.hid hur
        obtain ⟨ar, cr, rfl, -, -⟩ := hur
        rw [show X.reverse.length = k by rw [List.length_reverse]; exact HN.out] at HREV ⊢
        replace TA := TA.below hb1
        replace TP := TP.below hb1
        replace cA0 := TA.c0
        replace cA1 := TA.c1
        replace cP0 := TP.c0
        replace cP1 := TP.c1
        replace HR := Lib.hid (HR.out.below hb1)
        replace HBEST := Lib.hid (HBEST.out.below hb1)
        replace BB := BB.tr hb1
        have TO := VBox.new y1 26 (.int .i64 H) (.slice ar k cr)
        have hb2 : Below y1.heap.size y1 (y1.alloc (Obj.cells #[.int .i64 H, .slice ar k cr] 26)) := (Below.refl _ _).al _
        have dP0 := keepc hb2 cP0
        have dP1 := keepc hb2 cP1
        go_wp2_with fail
        replace TA := TA.below hb2
        replace TP := TP.below hb2
        replace cA0 := TA.c0
        replace cA1 := TA.c1
        replace cP0 := TP.c0
        replace cP1 := TP.c1
        replace HR := Lib.hid (HR.out.below hb2)
        replace HREV := Lib.hid (HREV.out.below hb2)
        replace HBEST := Lib.hid (HBEST.out.below hb2)
        replace BB := BB.tr hb2
        have cO0 := TO.c0
        have cO1 := TO.c1
        generalize (y1.alloc (Obj.cells #[.int .i64 H, .slice ar k cr] 26)) = y2 at *
        obtain ⟨bO, hbO⟩ : ∃ b, y1.heap.size = b := ⟨_, rfl⟩
        rw [hbO] at TO cO0 cO1 ⊢
        clear hb2 hbO dP0 dP1
        refine (c_impl_RoutineBeats (permX X O) H _ _ HBEST.out).mono ?_; rintro e y3 ⟨rfl, hb3⟩
        rw [HC1.out, HA0.out]
        replace TA := TA.below hb3
        replace TP := TP.below hb3
        replace TO := TO.below hb3
        replace cA0 := TA.c0
        replace cA1 := TA.c1
        replace cP0 := TP.c0
        replace cP1 := TP.c1
        replace cO0 := TO.c0
        replace cO1 := TO.c1
        replace HR := Lib.hid (HR.out.below hb3)
        replace HREV := Lib.hid (HREV.out.below hb3)
        replace BB := BB.tr hb3
        go_wp2_with fail
        refine (c_impl_RoutineBeats X H _ _ HR.out).mono ?_; rintro e y4 ⟨rfl, hb4⟩
        rw [HC2.out, HB0'.out]
        replace TA := TA.below hb4
        replace TP := TP.below hb4
        replace TO := TO.below hb4
        replace cA0 := TA.c0
        replace cA1 := TA.c1
        replace cP0 := TP.c0
        replace cP1 := TP.c1
        replace cO0 := TO.c0
        replace cO1 := TO.c1
        replace HREV := Lib.hid (HREV.out.below hb4)
        replace BB := BB.tr hb4
        go_wp2_with fail
        refine (c_impl_RoutineBeats X.reverse H _ _ HREV.out).mono ?_; rintro e y5 ⟨rfl, hb5⟩
        rw [HC3.out, HC0.out]
        replace TA := TA.below hb5
        replace TP := TP.below hb5
        replace cA1 := TA.c1
        replace cP1 := TP.c1
        replace BB := BB.tr hb5
        have tk : ((k : Int) == (k : Int)) = true := beq_self_eq_true _
        have ta : (L == L) = true := beq_self_eq_true L
        have td1 : decide (L ≤ lb) = true := decide_eq_true hle1
        have td2 : decide (L ≤ lc) = true := decide_eq_true hle2
        clear TA TP HP HA0 HB0' HC0 HC1 HC2 HC3 HEH HEX HREV HR HO2 HB0 HN HM HO HL HC HBP
        go_wp2
        go_ret
        exact ⟨by simp, BB⟩
  subst hR0
  obtain ⟨e1, e2, e3, e4, e5⟩ := tr_tr HR1.out
  rw [HH1.out, HZ1.out] at e3 e4 e5
  have HE3 := Lib.hid e3
  have HE4 := Lib.hid e4
  have HE5 := Lib.hid e5
  clear e1 e2 e3 e4 e5
  go_wp2_with fail
  refine (c_impl_TurnRoutine Z1 H1 _ _ HX.out).mono ?_; rintro e w13 ⟨ub, rfl, hbk, hb13⟩
  rw [HE3.out, HE4.out]
  rw [HE5.out] at hbk
  have HBK := Lib.hid hbk
  obtain ⟨ab, cb, rfl, -, -⟩ := hbk
  rw [HNT.out] at HBK ⊢
  replace TA := TA.below hb13
  replace TB := TB.below hb13
  replace TD := TD.below hb13
  replace cA0 := TA.c0
  replace cA1 := TA.c1
  replace cB0 := TB.c0
  replace cB1 := TB.c1
  replace cD0 := TD.c0
  replace cD1 := TD.c1
  replace HR := Lib.hid (HR.out.below hb13)
  replace HO2 := Lib.hid (HO2.out.below hb13)
  replace HTR := Lib.hid (HTR.out.below hb13)
  replace HX := Lib.hid (HX.out.below hb13)
  replace BB := BB.tr hb13
  clear hb13
  have TK := VBox.new w13 26 (.int .i64 Ht) (.slice ab nt cb)
  have ha : Below w13.heap.size w13 (w13.alloc (Obj.cells #[.int .i64 Ht, .slice ab nt cb] 26)) := (Below.refl _ _).al _
  have dA0 := keepc ha cA0
  have dA1 := keepc ha cA1
  have dB0 := keepc ha cB0
  have dB1 := keepc ha cB1
  have dD0 := keepc ha cD0
  have dD1 := keepc ha cD1
  go_wp2_with fail
  clear dA0 dA1 dB0 dB1 dD0 dD1
  have cK0 := TK.c0
  have cK1 := TK.c1
  replace TA := TA.below ha
  replace TB := TB.below ha
  replace TD := TD.below ha
  replace cA0 := TA.c0
  replace cA1 := TA.c1
  replace cB0 := TB.c0
  replace cB1 := TB.c1
  replace cD0 := TD.c0
  replace cD1 := TD.c1
  replace HR := Lib.hid (HR.out.below ha)
  replace HO2 := Lib.hid (HO2.out.below ha)
  replace HTR := Lib.hid (HTR.out.below ha)
  replace HX := Lib.hid (HX.out.below ha)
  replace HBK := Lib.hid (HBK.out.below ha)
  replace BB := BB.tr ha
  generalize (w13.alloc (Obj.cells #[.int .i64 Ht, .slice ab nt cb] 26)) = x13 at *
  obtain ⟨bK, hbe⟩ : ∃ b, w13.heap.size = b := ⟨_, rfl⟩
  rw [hbe] at TK cK0 cK1 ⊢
  clear ha hbe
  refine (c_spec_SameRoutine Y Ht _ _ _ HBK.out HTR.out).mono ?_; rintro e w14 ⟨rfl, hb14⟩
  replace TA := TA.below hb14
  replace TB := TB.below hb14
  replace TD := TD.below hb14
  replace TK := TK.below hb14
  replace cA0 := TA.c0
  replace cA1 := TA.c1
  replace cB0 := TB.c0
  replace cB1 := TB.c1
  replace cD0 := TD.c0
  replace cD1 := TD.c1
  replace cK0 := TK.c0
  replace cK1 := TK.c1
  replace HR := Lib.hid (HR.out.below hb14)
  replace HO2 := Lib.hid (HO2.out.below hb14)
  replace HTR := Lib.hid (HTR.out.below hb14)
  replace HX := Lib.hid (HX.out.below hb14)
  replace HBK := Lib.hid (HBK.out.below hb14)
  replace BB := BB.tr hb14
  clear hb14
  clear TB TD TK cB0 cB1 cD0 cD1 cK0 cK1 HTR HX HBK
  by_cases hC0 : C = 0
  rotate_left
  · have tC : (C != 0) = true := by simpa using hC0
    go_wp2
    go_ret
    exact ⟨rfl, BB⟩
  subst hC0
  obtain ⟨hv, hp, hl, eH, eX, hs, hle1, hle2, hc1, hc2, hc3⟩ := so_facts HC.out
  rw [HO.out] at hp hl hs hle1 hle2 hc1
  rw [HL.out] at hs
  have hmn : m = n := by rw [← HM.out, ← HN.out]; exact hl
  subst hmn
  rw [HN.out] at hp
  have hn8 := (rout_ok hv).hl
  rw [HN.out] at hn8
  obtain ⟨lb, hlb⟩ : ∃ a, ((thX H X).length : Int) = a := ⟨_, rfl⟩
  obtain ⟨lc, hlc⟩ : ∃ a, ((thX H X.reverse).length : Int) = a := ⟨_, rfl⟩
  rw [← hs] at hle1 hle2
  rw [hlb] at hle1
  rw [hlc] at hle2
  have HP := Lib.hid hp
  have HA0 := Lib.hid hs.symm
  have HB0' := Lib.hid hlb
  have HC0 := Lib.hid hlc
  have HC1 := Lib.hid hc1
  have HC2 := Lib.hid hc2
  have HC3 := Lib.hid hc3
  have HEH := Lib.hid eH
  have HEX := Lib.hid eX
  clear hv hp hl eH eX hc1 hc2 hc3 hs hlb hlc
  obtain ⟨RX, hRX1, hRX2, -, hRX4⟩ := rdP_rows HR.out
  have HRX1 := Lib.hid hRX1
  have HRX2 := Lib.hid hRX2
  have HRX4 := Lib.hid hRX4
  clear hRX1 hRX2 hRX4
  have TP := VBox.new w14 26 (.int .i64 H) (.slice none 0 0)
  have ha : Below w14.heap.size w14 (w14.alloc (Obj.cells #[.int .i64 H, .slice none 0 0] 26)) := (Below.refl _ _).al _
  have dA0 := keepc ha cA0
  have dA1 := keepc ha cA1
  go_wp2_with (at_make; (generalize (w14.alloc (Obj.cells #[.int .i64 H, .slice none 0 0] 26)) = wb at *); refine make_bool rfl _ _ _ _ rfl Try.underlying40 infoB wb.heap.size _ _ _ _ _ m rfl rfl rfl rfl (by omega) (Nat.le_refl _) ?_; intro wc hbools hbel hsz)
  have hbc : Below wb.heap.size wb wc := hbel wb (Below.refl _ _)
  have TC := TP.below hbc
  have hPl := TP.lt
  obtain ⟨bP, hbP⟩ : ∃ b, w14.heap.size = b := ⟨_, rfl⟩
  have HBP := Lib.hid hbP
  rw [hbP] at TC hPl ha ⊢
  obtain ⟨GS, hGS⟩ : ∃ b, wb.heap.size = b := ⟨_, rfl⟩
  rw [hGS] at hbools hPl hbc hsz ⊢
  have B0 : Below bP w14 wc := ha.trans (hbc.mono (by omega))
  clear hbel TP dA0 dA1 hbP hGS ha hbc
  go_loopw [25] (fun i wr => ∃ (k : Nat) (v : Value), k ≤ m ∧ i = .int .i64 k ∧ VBox wr bP (.int .i64 H) v ∧ OwnRow 34 2 rowQ (GS + 1) wr.heap.size wr v (rowO RX O k) ∧ BoolsAt wr GS m (seenF O k) ∧ GS < wr.heap.size ∧ Below bP w14 wr) (fun i _ => m - (intOf i).toNat)
  case atStart => exact ⟨0, _, by omega, by go_num, TC, OwnRow.nil _ rfl, hbools, hsz, B0⟩
  case round =>
    clear hbools TC hsz B0
    obtain ⟨k, v, hk, rfl, TP, hY, hbo, hGo, BR'⟩ := hrel
    obtain ⟨wo, rfl⟩ : ∃ wo : World, wo = wr := ⟨_, rfl⟩
    have BR : Below w14.heap.size w14 wo := by rw [HBP.out]; exact BR'
    have hOl : O.length = m := HM.out
    have hXl2 : X.length = m := HN.out
    obtain ⟨av, cv, hvv, -, -⟩ := hY.rd rowQ_len
    rw [rowO_len (by omega)] at hvv
    subst hvv
    have cP1 := TP.c1
    by_cases hlt : k < m
    · have hkO : k < O.length := by omega
      obtain ⟨hA, hOk⟩ := oI_lt HP.out hkO
      have hseen := seenF_not HP.out hkO k (Nat.le_refl _)
      have HST : Hid (∀ v, (if v = oI O k then true else seenF O k v) = seenF O (k + 1) v) := fun v => rfl
      have HRO := Lib.hid (rowO_succ (Y := RX) hkO)
      obtain ⟨A, eA⟩ : ∃ A, oI O k = A := ⟨_, rfl⟩
      rw [eA] at hA hOk hseen HST HRO
      obtain ⟨_, _, he, -, hc⟩ := HO2.out
      rw [hOl] at he
      cases he
      obtain ⟨b2, o2, he2, y0⟩ := hc k hkO
      subst he2
      rw [hOk] at y0
      obtain ⟨_, _, he3, -, hc3⟩ := HRX2.out
      have hARX : A < RX.length := by rw [HRX1.out, hXl2]; exact hA
      obtain ⟨bx, ox, he4, hx⟩ := hc3 A hARX
      rw [HRX1.out, hXl2] at he3
      cases he3
      subst he4
      obtain ⟨-, hpr⟩ := HRX4.out A (by omega)
      obtain ⟨ap, cp, hpv, -, -⟩ := hpr
      obtain ⟨tq, htq⟩ : ∃ t, (RX.getD A qZ).2 = t := ⟨_, rfl⟩
      have eRX : RX.getD A qZ = RX[A] := by simp [List.getD, hARX]
      rw [eRX] at hpv htq HRO
      obtain ⟨lp, hlp⟩ : ∃ l, (X.getD A pZ).1.length = l := ⟨_, rfl⟩
      rw [hlp] at hpv
      have z0 := hx 0 _ rfl
      have z1 := hx 1 _ rfl
      rw [hpv, Nat.add_zero] at z0
      rw [htq] at z1
      have HEP : Hid (RX[A] = (Value.slice ap lp cp, tq)) := by unfold Hid; rw [← hpv, ← htq]
      rw [HEP.out] at HRO
      have lb2 : b2 < bP := by rw [← HBP.out]; exact World.block_lt_of_cell? _ _ y0
      have lbx : bx < bP := by rw [← HBP.out]; exact World.block_lt_of_cell? _ _ z0
      have lbA : bA < bP := by rw [← HBP.out]; exact TA.lt
      have r1 := keepc BR cA1
      replace y0 := keepc BR y0
      replace z0 := keepc BR z0
      replace z1 := keepc BR z1
      obtain ⟨sA, fA⟩ := hbo A hA
      rw [hseen] at sA
      have hbo2 := hbo.store A hA true
      have hbo3 : BoolsAt (wo.setCell ⟨GS, A, none⟩ (.bool true)) GS m (seenF O (k + 1)) := fun v hv => by rw [← HST.out v]; exact hbo2 v hv
      have hset : wo.grownBy (wo.setCell ⟨GS, A, none⟩ (.bool true)) (some GS) := grownBy_setCells wo GS [.bool true] A
      have TPs := TP.grown hset (by simp only [ne_eq, Option.some.injEq]; omega)
      have hYs := hY.upd (Upd.of_grown (lo := GS) (hi := GS + 1) hset (fun q hq => by simp only [Option.some.injEq] at hq; omega)) (Or.inr (Nat.le_refl _))
      have BRs := BR'.grown hset (by omega) (fun q hq => by simp only [Option.some.injEq] at hq; omega)
      have r1s := grown_c hset r1 (by simp only [ne_eq, Option.some.injEq]; omega)
      have y0s := grown_c hset y0 (by simp only [ne_eq, Option.some.injEq]; omega)
      have z0s := grown_c hset z0 (by simp only [ne_eq, Option.some.injEq]; omega)
      have z1s := grown_c hset z1 (by simp only [ne_eq, Option.some.injEq]; omega)
      have hss := hset.size
      have hin0 : (0 : Int) ≤ (k : Int) := Int.natCast_nonneg _
      have hin1 : (k : Int) < (m : Int) := by omega
      have hin2 : (0 : Int) ≤ (A : Int) := Int.natCast_nonneg _
      have hin3 : (A : Int) < (m : Int) := by omega
      clear HEP
      clear hbo hbo2 hc hc3 hx hseen eA eRX htq hpv hlp hset hOk hOl hXl2 hY TP hkO hARX
      go_wp2_with fail
      clear y0 z0 z1 r1 sA fA cP1
      generalize (wo.setCell ⟨GS, A, none⟩ (.bool true)) = ws at *
      have cod : ws.drew.cell? ⟨bP, 1, none⟩ = some (.slice av k cv) := TPs.c1
      have fbd : ws.drew.cell? ⟨bA, 1, none⟩ = some (.slice (some ⟨bx, ox, none⟩) m cu) ∧ ws.drew.cell? ⟨b2, o2 + k, none⟩ = some (.int .i64 (A : Int)) ∧ ws.drew.cell? ⟨bx, ox + A * 2, none⟩ = some (.slice ap lp cp) ∧ ws.drew.cell? ⟨bx, ox + A * 2 + 1, none⟩ = some (.int .i64 tq) := ⟨r1s, y0s, z0s, z1s⟩
      
      refine wp_region_noPanic ?_; refine wp_region_L (S := untilL 11 13 (fun w' => w'.cell? ⟨bP, 1, none⟩ = some (.slice av k cv)) (fun w' => w'.cell? ⟨bA, 1, none⟩ = some (.slice (some ⟨bx, ox, none⟩) m cu) ∧ w'.cell? ⟨b2, o2 + k, none⟩ = some (.int .i64 (A : Int)) ∧ w'.cell? ⟨bx, ox + A * 2, none⟩ = some (.slice ap lp cp) ∧ w'.cell? ⟨bx, ox + A * 2 + 1, none⟩ = some (.int .i64 tq))) (by kernel_rfl) ?_
      (refine wpAnyL_take (S0 := (fun _ => True)) (i := 0) (q := 1) (v := ?lv12) rfl rfl (by kernel_rfl) (by kernel_rfl) (by kernel_rfl) (by kernel_rfl) (by kernel_rfl) (fun _ _ _ h => h) (fun _ _ _ _ => True.intro) (untilL_set (by decide) (by decide)) (Or.inl ⟨by rfl, ?lhy12⟩) ⟨fun _ => cod, fun _ => fbd⟩ ?lrest12; case lhy12 => (intro w hSw; (try dsimp only at hSw); go_simp; (try with_reducible rfl)); (try simp only [Act.put, List.getElem_toArray, List.getElem_cons_zero, List.getElem_cons_succ, List.setIfInBounds_toArray, List.set_cons_zero, List.set_cons_succ])); (refine wpAnyL_take (S0 := (fun w' => w'.cell? ⟨bP, 1, none⟩ = some (.slice av k cv))) (i := 1) (q := 11) (v := ?lv13) rfl rfl (by kernel_rfl) (by kernel_rfl) (by kernel_rfl) (by kernel_rfl) (by kernel_rfl) (fun _ _ _ h => h) (fun _ _ hq hS => hS.1 hq) (untilL_set (by decide) (by decide)) (Or.inl ⟨by rfl, ?lhy13⟩) ⟨fun _ => cod, fun _ => fbd⟩ ?lrest13; case lhy13 => (intro w hSw; (try dsimp only at hSw); go_simp; (try with_reducible rfl)); (try simp only [Act.put, List.getElem_toArray, List.getElem_cons_zero, List.getElem_cons_succ, List.setIfInBounds_toArray, List.set_cons_zero, List.set_cons_succ])); (refine wpAnyL_take (S0 := (fun _ => True)) (i := 2) (q := 3) (v := ?lv14) rfl rfl (by kernel_rfl) (by kernel_rfl) (by kernel_rfl) (by kernel_rfl) (by kernel_rfl) (fun _ _ _ h => h) (fun _ _ _ _ => True.intro) (untilL_set (by decide) (by decide)) (Or.inl ⟨by rfl, ?lhy14⟩) ⟨fun _ => cod, fun _ => fbd⟩ ?lrest14; case lhy14 => (intro w hSw; (try dsimp only at hSw); go_simp; (try with_reducible rfl)); (try simp only [Act.put, List.getElem_toArray, List.getElem_cons_zero, List.getElem_cons_succ, List.setIfInBounds_toArray, List.set_cons_zero, List.set_cons_succ])); (refine wpAnyL_take (S0 := (fun w' => w'.cell? ⟨bA, 1, none⟩ = some (.slice (some ⟨bx, ox, none⟩) m cu) ∧ w'.cell? ⟨b2, o2 + k, none⟩ = some (.int .i64 (A : Int)) ∧ w'.cell? ⟨bx, ox + A * 2, none⟩ = some (.slice ap lp cp) ∧ w'.cell? ⟨bx, ox + A * 2 + 1, none⟩ = some (.int .i64 tq))) (i := 3) (q := 13) (v := ?lv15) rfl rfl (by kernel_rfl) (by kernel_rfl) (by kernel_rfl) (by kernel_rfl) (by kernel_rfl) (fun _ _ _ h => h) (fun _ _ hq hS => hS.2 hq) (untilL_set (by decide) (by decide)) (Or.inl ⟨by rfl, ?lhy15⟩) ⟨fun _ => cod, fun _ => fbd⟩ ?lrest15; case lhy15 => (intro w hSw; (try dsimp only at hSw); go_simp; (try with_reducible rfl)); (try simp only [Act.put, List.getElem_toArray, List.getElem_cons_zero, List.getElem_cons_succ, List.setIfInBounds_toArray, List.set_cons_zero, List.set_cons_succ])); (refine wpAnyL_take (S0 := (fun _ => True)) (i := 4) (q := 6) (v := ?lv16) rfl rfl (by kernel_rfl) (by kernel_rfl) (by kernel_rfl) (by kernel_rfl) (by kernel_rfl) (fun _ _ _ h => h) (fun _ _ _ _ => True.intro) (untilL_set (by decide) (by decide)) (Or.inl ⟨by rfl, ?lhy16⟩) ⟨fun _ => cod, fun _ => fbd⟩ ?lrest16; case lhy16 => (intro w hSw; (try dsimp only at hSw); go_simp; (try with_reducible rfl)); (try simp only [Act.put, List.getElem_toArray, List.getElem_cons_zero, List.getElem_cons_succ, List.setIfInBounds_toArray, List.set_cons_zero, List.set_cons_succ])); (refine wpAnyL_take (S0 := (fun _ => True)) (i := 5) (q := 6) (v := ?lv17) rfl rfl (by kernel_rfl) (by kernel_rfl) (by kernel_rfl) (by kernel_rfl) (by kernel_rfl) (fun _ _ _ h => h) (fun _ _ _ _ => True.intro) (untilL_set (by decide) (by decide)) (Or.inl ⟨by rfl, ?lhy17⟩) ⟨fun _ => cod, fun _ => fbd⟩ ?lrest17; case lhy17 => (intro w hSw; (try dsimp only at hSw); go_simp; (try with_reducible rfl)); (try simp only [Act.put, List.getElem_toArray, List.getElem_cons_zero, List.getElem_cons_succ, List.setIfInBounds_toArray, List.set_cons_zero, List.set_cons_succ])); (refine wpAnyL_take (S0 := (fun _ => True)) (i := 6) (q := 7) (v := ?lv18) rfl rfl (by kernel_rfl) (by kernel_rfl) (by kernel_rfl) (by kernel_rfl) (by kernel_rfl) (fun _ _ _ h => h) (fun _ _ _ _ => True.intro) (untilL_set (by decide) (by decide)) (Or.inl ⟨by rfl, ?lhy18⟩) ⟨fun _ => cod, fun _ => fbd⟩ ?lrest18; case lhy18 => (intro w hSw; (try dsimp only at hSw); go_simp; (try with_reducible rfl)); (try simp only [Act.put, List.getElem_toArray, List.getElem_cons_zero, List.getElem_cons_succ, List.setIfInBounds_toArray, List.set_cons_zero, List.set_cons_succ])); (refine wpAnyL_take (S0 := (fun w' => w'.cell? ⟨bA, 1, none⟩ = some (.slice (some ⟨bx, ox, none⟩) m cu) ∧ w'.cell? ⟨b2, o2 + k, none⟩ = some (.int .i64 (A : Int)) ∧ w'.cell? ⟨bx, ox + A * 2, none⟩ = some (.slice ap lp cp) ∧ w'.cell? ⟨bx, ox + A * 2 + 1, none⟩ = some (.int .i64 tq))) (i := 7) (q := 13) (v := ?lv19) rfl rfl (by kernel_rfl) (by kernel_rfl) (by kernel_rfl) (by kernel_rfl) (by kernel_rfl) (fun _ _ _ h => h) (fun _ _ hq hS => hS.2 hq) (untilL_set (by decide) (by decide)) (Or.inl ⟨by rfl, ?lhy19⟩) ⟨fun _ => cod, fun _ => fbd⟩ ?lrest19; case lhy19 => (intro w hSw; (try dsimp only at hSw); go_simp; (try with_reducible rfl)); (try simp only [Act.put, List.getElem_toArray, List.getElem_cons_zero, List.getElem_cons_succ, List.setIfInBounds_toArray, List.set_cons_zero, List.set_cons_succ])); (refine wpAnyL_take (S0 := (fun _ => True)) (i := 8) (q := 9) (v := ?lv20) rfl rfl (by kernel_rfl) (by kernel_rfl) (by kernel_rfl) (by kernel_rfl) (by kernel_rfl) (fun _ _ _ h => h) (fun _ _ _ _ => True.intro) (untilL_set (by decide) (by decide)) (Or.inl ⟨by rfl, ?lhy20⟩) ⟨fun _ => cod, fun _ => fbd⟩ ?lrest20; case lhy20 => (intro w hSw; (try dsimp only at hSw); go_simp; (try with_reducible rfl)); (try simp only [Act.put, List.getElem_toArray, List.getElem_cons_zero, List.getElem_cons_succ, List.setIfInBounds_toArray, List.set_cons_zero, List.set_cons_succ])); (refine wpAnyL_take (S0 := (fun w' => w'.cell? ⟨bA, 1, none⟩ = some (.slice (some ⟨bx, ox, none⟩) m cu) ∧ w'.cell? ⟨b2, o2 + k, none⟩ = some (.int .i64 (A : Int)) ∧ w'.cell? ⟨bx, ox + A * 2, none⟩ = some (.slice ap lp cp) ∧ w'.cell? ⟨bx, ox + A * 2 + 1, none⟩ = some (.int .i64 tq))) (i := 9) (q := 13) (v := ?lv21) rfl rfl (by kernel_rfl) (by kernel_rfl) (by kernel_rfl) (by kernel_rfl) (by kernel_rfl) (fun _ _ _ h => h) (fun _ _ hq hS => hS.2 hq) (untilL_set (by decide) (by decide)) (Or.inl ⟨by rfl, ?lhy21⟩) ⟨fun _ => cod, fun _ => fbd⟩ ?lrest21; case lhy21 => (intro w hSw; (try dsimp only at hSw); go_simp; (try with_reducible rfl)); (try simp only [Act.put, List.getElem_toArray, List.getElem_cons_zero, List.getElem_cons_succ, List.setIfInBounds_toArray, List.set_cons_zero, List.set_cons_succ]))
      refine wpAnyL_ready (rs := [10]) (by kernel_rfl) (by simp) ?_; refine AllReadyL.cons (i := 10) rfl (fun K hK => ?_) AllReadyL.nil
      go_simp
      have hb8 : Below ws.heap.size ws (ws.alloc (Obj.cells #[.slice ap lp cp, .int .i64 tq] 34)).drew := ((Below.refl _ _).al _).dr
      have co8 : (ws.alloc (Obj.cells #[.slice ap lp cp, .int .i64 tq] 34)).drew.cell? ⟨bP, 1, none⟩ = some (.slice av k cv) := keepc hb8 TPs.c1
      have fb8 : (ws.alloc (Obj.cells #[.slice ap lp cp, .int .i64 tq] 34)).drew.cell? ⟨bA, 1, none⟩ = some (.slice (some ⟨bx, ox, none⟩) m cu) ∧ (ws.alloc (Obj.cells #[.slice ap lp cp, .int .i64 tq] 34)).drew.cell? ⟨b2, o2 + k, none⟩ = some (.int .i64 (A : Int)) ∧ (ws.alloc (Obj.cells #[.slice ap lp cp, .int .i64 tq] 34)).drew.cell? ⟨bx, ox + A * 2, none⟩ = some (.slice ap lp cp) ∧ (ws.alloc (Obj.cells #[.slice ap lp cp, .int .i64 tq] 34)).drew.cell? ⟨bx, ox + A * 2 + 1, none⟩ = some (.int .i64 tq) := ⟨keepc hb8 r1s, keepc hb8 y0s, keepc hb8 z0s, keepc hb8 z1s⟩
      
      refine hK.out _ _ ⟨(fun _ => co8), (fun _ => fb8)⟩ (fun hHeld => ?_); clear hK K; (try simp only [Act.put, List.getElem_toArray, List.getElem_cons_zero, List.getElem_cons_succ, List.setIfInBounds_toArray, List.set_cons_zero, List.set_cons_succ])
      refine wpAnyL_ready (rs := [11]) (by kernel_rfl) (by simp) ?_; refine AllReadyL.cons (i := 11) rfl (fun K hK => ?_) AllReadyL.nil
      refine step_push_row (row := rowQ) rfl _ _ _ _ rfl Try.underlying24 (.agg #[.slice none 0 0, .int .i64 0]) 32 infoQ rfl (by decide) (by decide) rowQ_len (GS + 1) wo.heap.size ws.heap.size (.slice av k cv) (rowO RX O k) (.slice ap lp cp, tq) #[.slice ap lp cp, .int .i64 tq] _ rfl (fun u hu => by simp only [rowQ, List.mem_cons, List.not_mem_nil, or_false] at hu; rcases hu with rfl | rfl <;> rfl) rfl rfl (heap_alloc_new ws _) (by exact hYs.al _) (by rw [rowO_len (by have := HM.out; omega)]; omega) (by have := hb8.size; omega) ?_
      intro v' w' ho' hg' hat' hs'
      rw [← HRO.out] at ho'
      have hlv : ∀ n, Value.ownBlock (.slice av k cv) = some n → GS + 1 ≤ n := fun n e => (World.ownsRow.lt hYs.1 n e).1
      have TP' := (TPs.below hb8).grown hg' (fun e => by have := hlv bP e; omega)
      have hbo' : BoolsAt w' GS m (seenF O (k + 1)) := fun q hq => by
        obtain ⟨h1, h2⟩ := (hbo3.below hb8) q hq
        exact ⟨grown_c hg' h1 (fun e => by have := hlv GS e; omega), grown_f hg' h1 h2 (fun e => by have := hlv GS e; omega)⟩
      have B8 : Below bP w14 (ws.alloc (Obj.cells #[.slice ap lp cp, .int .i64 tq] 34)).drew := BRs.trans (hb8.mono (by omega))
      have hs8 := hb8.size
      have B' := B8.grown hg' (by omega) (fun n e => by have := hlv n e; omega)
      have fb9 : w'.cell? ⟨bA, 1, none⟩ = some (.slice (some ⟨bx, ox, none⟩) m cu) ∧ w'.cell? ⟨b2, o2 + k, none⟩ = some (.int .i64 (A : Int)) ∧ w'.cell? ⟨bx, ox + A * 2, none⟩ = some (.slice ap lp cp) ∧ w'.cell? ⟨bx, ox + A * 2 + 1, none⟩ = some (.int .i64 tq) := ⟨grown_c hg' fb8.1 (fun e => by have := hlv _ e; omega), grown_c hg' fb8.2.1 (fun e => by have := hlv _ e; omega), grown_c hg' fb8.2.2.1 (fun e => by have := hlv _ e; omega), grown_c hg' fb8.2.2.2 (fun e => by have := hlv _ e; omega)⟩
      obtain ⟨a9, c9, hv9, -, -⟩ := ho'.rd rowQ_len
      rw [rowO_len (by have := HM.out; omega)] at hv9
      subst hv9
      obtain ⟨TZ, gz⟩ := TP'.set1 (.slice a9 (k + 1) c9)
      have hYz := (ho'.upd (Upd.of_grown (lo := bP) (hi := bP + 1) gz (fun q hq => by simp only [Option.some.injEq] at hq; omega)) (Or.inr (by omega))).tight
      have hboz : BoolsAt (w'.setCell ⟨bP, 1, none⟩ (.slice a9 (k + 1) c9)) GS m (seenF O (k + 1)) := fun q hq => by
        obtain ⟨h1, h2⟩ := hbo' q hq
        exact ⟨grown_c gz h1 (by simp only [ne_eq, Option.some.injEq]; omega), grown_f gz h1 h2 (by simp only [ne_eq, Option.some.injEq]; omega)⟩
      have BZ := B'.grown gz (by omega) (fun n e => by simp only [Option.some.injEq] at e; omega)
      have hGz : GS < (w'.setCell ⟨bP, 1, none⟩ (.slice a9 (k + 1) c9)).heap.size := Nat.lt_of_lt_of_le (by omega) gz.size
      have b0' := TP'.c0
      have b1' := TP'.c1
      have bf1' := TP'.f1
      
      refine hK.out _ _ ⟨(fun h => Bool.noConfusion (show true = false from h)), (fun _ => fb9)⟩ (fun hHeld => ?_); clear hK K; (try simp only [Act.put, List.getElem_toArray, List.getElem_cons_zero, List.getElem_cons_succ, List.setIfInBounds_toArray, List.set_cons_zero, List.set_cons_succ])
      
      (refine wpAnyL_take (S0 := (fun _ => True)) (i := 12) (q := 13) (v := ?lv22) rfl rfl (by kernel_rfl) (by kernel_rfl) (by kernel_rfl) (by kernel_rfl) (by kernel_rfl) (fun _ _ _ h => h) (fun _ _ _ _ => True.intro) (untilL_set (by decide) (by decide)) (Or.inl ⟨by rfl, ?lhy22⟩) ⟨(fun h => Bool.noConfusion (show true = false from h)), fun _ => fb9⟩ ?lrest22; case lhy22 => (intro w hSw; (try dsimp only at hSw); go_simp; (try with_reducible rfl)); (try simp only [Act.put, List.getElem_toArray, List.getElem_cons_zero, List.getElem_cons_succ, List.setIfInBounds_toArray, List.set_cons_zero, List.set_cons_succ]))
      refine wpAnyL_ready (rs := [13]) (by kernel_rfl) (by simp) ?_; refine AllReadyL.cons (i := 13) rfl (fun K hK => ?_) AllReadyL.nil
      go_simp
      refine hK.out _ _ ⟨(fun h => Bool.noConfusion (show true = false from h)), (fun h => Bool.noConfusion (show true = false from h))⟩ (fun hHeld => ?_); clear hK K; (try simp only [Act.put, List.getElem_toArray, List.getElem_cons_zero, List.getElem_cons_succ, List.setIfInBounds_toArray, List.set_cons_zero, List.set_cons_succ])
      refine wpAnyL_done (by kernel_rfl) ?_ _; refine NoPanic.normal ?_
      clear b0' b1' bf1'
      generalize w'.setCell ⟨bP, 1, none⟩ (.slice a9 (k + 1) c9) = wz at *
      go_wp2
      go_roundw
      case rel => exact ⟨k + 1, _, by omega, by go_num, TZ, hYz, hboz, hGz, BZ⟩
      case measure => (simp [intOf] <;> omega)
    · have hkm : k = m := by omega
      subst hkm
      have hrow := rdP_of_row (X := permX X O) (Y := rowO RX O O.length) (w := wo) (by rw [rowO_len (Nat.le_refl _), permX_len]) (by rw [hOl]; exact hY.rd rowQ_len) (fun i hi => by
        have h := rowO_at (w := w14) (by rw [hXl2]; exact HP.out) HRX4.out i hi
        exact ⟨h.1, h.2.below BR⟩)
      have HBEST := Lib.hid hrow
      replace TA := TA.below BR
      replace cA0 := TA.c0
      replace cA1 := TA.c1
      replace HR := Lib.hid (HR.out.below BR)
      replace BB := BB.tr BR
      have cP0 := TP.c0
      clear hbo hY hrow HRX1 HRX2 HRX4 hOl hXl2 hGo
      go_wp2_with fail
      refine (c_spec_TurnRoutine X H _ _ HR.out).mono ?_; rintro e y1 ⟨ur, rfl, hur, hb1⟩
      rw [HEH.out, HC2.out]
      rw [HEX.out] at hur
      have HREV := Lib.hid hur
      obtain ⟨ar, cr, rfl, -, -⟩ := hur
      rw [show X.reverse.length = k by rw [List.length_reverse]; exact HN.out] at HREV ⊢
      replace TA := TA.below hb1
      replace TP := TP.below hb1
      replace cA0 := TA.c0
      replace cA1 := TA.c1
      replace cP0 := TP.c0
      replace cP1 := TP.c1
      replace HR := Lib.hid (HR.out.below hb1)
      replace HBEST := Lib.hid (HBEST.out.below hb1)
      replace BB := BB.tr hb1
      have TO := VBox.new y1 26 (.int .i64 H) (.slice ar k cr)
      have hb2 : Below y1.heap.size y1 (y1.alloc (Obj.cells #[.int .i64 H, .slice ar k cr] 26)) := (Below.refl _ _).al _
      have dP0 := keepc hb2 cP0
      have dP1 := keepc hb2 cP1
      go_wp2_with fail
      replace TA := TA.below hb2
      replace TP := TP.below hb2
      replace cA0 := TA.c0
      replace cA1 := TA.c1
      replace cP0 := TP.c0
      replace cP1 := TP.c1
      replace HR := Lib.hid (HR.out.below hb2)
      replace HREV := Lib.hid (HREV.out.below hb2)
      replace HBEST := Lib.hid (HBEST.out.below hb2)
      replace BB := BB.tr hb2
      have cO0 := TO.c0
      have cO1 := TO.c1
      generalize (y1.alloc (Obj.cells #[.int .i64 H, .slice ar k cr] 26)) = y2 at *
      obtain ⟨bO, hbO⟩ : ∃ b, y1.heap.size = b := ⟨_, rfl⟩
      rw [hbO] at TO cO0 cO1 ⊢
      clear hb2 hbO dP0 dP1
      refine (c_impl_RoutineBeats (permX X O) H _ _ HBEST.out).mono ?_; rintro e y3 ⟨rfl, hb3⟩
      rw [HC1.out, HA0.out]
      replace TA := TA.below hb3
      replace TP := TP.below hb3
      replace TO := TO.below hb3
      replace cA0 := TA.c0
      replace cA1 := TA.c1
      replace cP0 := TP.c0
      replace cP1 := TP.c1
      replace cO0 := TO.c0
      replace cO1 := TO.c1
      replace HR := Lib.hid (HR.out.below hb3)
      replace HREV := Lib.hid (HREV.out.below hb3)
      replace BB := BB.tr hb3
      go_wp2_with fail
      refine (c_impl_RoutineBeats X H _ _ HR.out).mono ?_; rintro e y4 ⟨rfl, hb4⟩
      rw [HC2.out, HB0'.out]
      replace TA := TA.below hb4
      replace TP := TP.below hb4
      replace TO := TO.below hb4
      replace cA0 := TA.c0
      replace cA1 := TA.c1
      replace cP0 := TP.c0
      replace cP1 := TP.c1
      replace cO0 := TO.c0
      replace cO1 := TO.c1
      replace HREV := Lib.hid (HREV.out.below hb4)
      replace BB := BB.tr hb4
      go_wp2_with fail
      refine (c_impl_RoutineBeats X.reverse H _ _ HREV.out).mono ?_; rintro e y5 ⟨rfl, hb5⟩
      rw [HC3.out, HC0.out]
      replace TA := TA.below hb5
      replace TP := TP.below hb5
      replace cA1 := TA.c1
      replace cP1 := TP.c1
      replace BB := BB.tr hb5
      have tk : ((k : Int) == (k : Int)) = true := beq_self_eq_true _
      have ta : (L == L) = true := beq_self_eq_true L
      have td1 : decide (L ≤ lb) = true := decide_eq_true hle1
      have td2 : decide (L ≤ lc) = true := decide_eq_true hle2
      clear TA TP HP HA0 HB0' HC0 HC1 HC2 HC3 HEH HEX HREV HR HO2 HB0 HN HM HO HL HC HBP
      go_wp2
      go_ret
      exact ⟨by simp, BB⟩
theorem own : ownKnob Try.prog.godebug = none := by kernel_rfl
theorem laidOut : laidOutB Try.prog = true := by kernel_rfl
set_option maxRecDepth 100000 in
theorem lifted (os : Os) (started : os.Started) (H : Type) (enc : TypeId × Value → H) :
    ReturnsInHanded {} Try.checked os 3 .any (Rows.fnOrdersSpec.pre6 enc Try.prog Try.f3 Rows.fnOrdersRow.domain false) (Rows.fnOrdersSpec.post enc Try.prog Try.f3 false true false false) := by
  refine returnsInHanded_of_change (C := Try.checked) own started (by kernel_rfl) Try.func3
    (ChangeSpec.witness6 (enc := enc) (C := Try.checked) false ⟨#[], #[.slice none 0 0], []⟩ 8 (by kernel_rfl) (by kernel_rfl) (by kernel_rfl) (by kernel_rfl)) ?_
  intro W base args ds gs before hval0 hW hcnd _
  have hval : ∀ (j : Nat) t v, Try.f3.params[j]? = some t → args[j]? = some v → Value.okWide Try.prog W .any base t v := hval0
  have hW' := hW
  obtain ⟨p, q, hA0, hV, rfl, hfz, hnd⟩ := hW
  have hA : DataW.TrodAll enc Try.prog W 0 (fun _ => true) true Try.f3.params.toList args.toList ds p := hA0
  rw [Try.params3] at hA hval
  obtain ⟨v0, vs0, d0, ds0, p0, q0, hargs, rfl, rfl, h0, r0⟩ := trodAll_cons hA
  obtain ⟨rfl, rfl, rfl⟩ := trodAll_nil r0
  obtain rfl : args = #[v0] := by cases args; simp_all
  obtain ⟨rfl, rfl⟩ := trodVars_none hV
  have k0 := h0
  have lt0 : ∀ x ∈ p0, x.block < W.heap.size := by obtain ⟨m, hm⟩ := k0; exact DataW.trod_lt m _ _ _ hm
  have a0 := open_bytes (hval 0 22 v0 rfl rfl) h0
  clear hA0 hval0
  refine (walk v0 W a0).mono fun e W' ⟨he, bel⟩ => ?_
  subst he
  exact ⟨_, rfl, _, _, _, [], _, [], hW', trodAll_mk1 (shut_bool Try.underlying4 _), (trodAll_cons_mk (Below.trod laidOut (by kernel_rfl) (of_decide_eq_true (by kernel_rfl)) k0 bel lt0) trodAll_mk0), rfl, bel.frame _, fun h => by cases h⟩
theorem over : Rows.fnOrdersRow.holds Try.pinned (OpenSpec.ofChange Rows.fnOrdersSpec) :=
  OpenClaim.holds_of_wide 3 Try.f3 rfl rfl rfl rfl rfl rfl rfl ⟨rfl, rfl, rfl, rfl, rfl⟩ rfl rfl rfl rfl rfl (by kernel_rfl) Try.func3 (by kernel_rfl)
    (of_decide_eq_true (by kernel_rfl)) (by unfold Func.isWrapper; first | (rw [if_pos (by decide +kernel)]; kernel_rfl) | (rw [if_neg (by decide +kernel)]; exact ⟨rfl, rfl⟩))
    (fun os started H enc _ => lifted os started H enc)
theorem proved : Rows.FnOrdersSaid := over
end fnOrders
end Go.Proofs.Ytgcmnpimkfmccaa
