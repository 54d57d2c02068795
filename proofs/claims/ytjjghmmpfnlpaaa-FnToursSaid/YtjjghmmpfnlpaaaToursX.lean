/- The law FnTours returns true for all slices of bytes. No condition. -/
import Derived.Test.YtjjghmmpfnlpaaaPlainTo
import Derived.Test.YtjjghmmpfnlpaaaDrT
import Derived.Test.YtjjghmmpfnlpaaaLawX
import Derived.Test.YtjjghmmpfnlpaaaTourQ
import Derived.Test.YtjjghmmpfnlpaaaTab6
import Derived.Test.YtjjghmmpfnlpaaaTrans
import Derived.Test.YtjjghmmpfnlpaaaBools
namespace Go.Proofs.Ytjjghmmpfnlpaaa
open Go.ChangeShapes Go.WideShapes Go.ChangeAt Go.RowKit
set_option linter.unusedSimpArgs false
set_option linter.unusedVariables false
namespace fnTours
theorem infoB : (Try.prog.info? 4).map (fun i => (i.zero, i.size, i.bytes)) = some (some (.bool false), 1, 1) := by kernel_rfl
set_option maxHeartbeats 16000000 in
set_option maxRecDepth 100000 in
theorem walk (v0 : Value) (w : World) (a0 : Arg_bytes w v0) : Calls Try.prog 4 #[v0] w fun e w' => e = .returned (.bool true) ∧ Below w.heap.size w w' := by
  obtain ⟨bs, hb0⟩ := a0
  have HB0 := Lib.hid hb0
  obtain ⟨aa, ca, rfl, hla, -, -⟩ := hb0
  cases hlong : decide ((bs.length : Int) > 4096)
  rotate_left
  · go_enter Try.func4, Try.ntmps4
    go_wp2_with fail
    refine (c_laws_f6big _ _ _ _ (by omega)).mono ?_; rintro e w1 ⟨rfl, rfl⟩; rw [hlong]
    go_wp2
    go_ret
    exact ⟨rfl, by (repeat (first | (with_reducible assumption) | (with_reducible exact Below.refl _ _) | (with_reducible refine Below.setCell ?_ (by first | (simp; done) | (simp; omega)) _) | (with_reducible refine Below.al ?_ _) | (with_reducible refine Below.dr ?_) | (with_reducible refine Below.drN ?_ _) | (with_reducible refine Below.tr ?_ (by with_reducible assumption))))⟩
  go_enter Try.func4, Try.ntmps4
  go_wp2_with fail
  refine (c_laws_f6big _ _ _ _ (by omega)).mono ?_; rintro e w1 ⟨rfl, rfl⟩; rw [hlong]
  go_wp2_with fail
  refine (c_spec_DrawTourPattern bs _ _ HB0.out).mono ?_; rintro e w1 ⟨u, X, H, rfl, hr, B1⟩
  have HR := Lib.hid hr
  obtain ⟨au, cu, rfl, hXl, -⟩ := hr
  go_wp2_with fail
  refine (c_impl_TourPattern X H _ _ HR.out).mono ?_; rintro e w2 ⟨vp, rfl, op, hb2⟩
  have Q2 := hb2
  go_wp2_with fail
  refine (c_spec_TourPattern X H _ _ (HR.out.below Q2)).mono ?_; rintro e w3 ⟨vp2, rfl, op2, hb3⟩
  have Q3 := Q2.tr hb3
  go_wp2_with fail
  refine (c_impl_ShortestTour X H _ _ (HR.out.below Q3)).mono ?_; rintro e w4 ⟨vo, rfl, oo, hb4⟩
  have Q4 := Q3.tr hb4
  go_wp2_with fail
  refine (c_spec_ShortestTour X H _ _ (HR.out.below Q4)).mono ?_; rintro e w5 ⟨vo2, rfl, oo2, hb5⟩
  have Q5 := Q4.tr hb5
  go_wp2_with fail
  refine (c_impl_FollowGroups X H _ _ (HR.out.below Q5)).mono ?_; rintro e w6 ⟨vg, rfl, og, hb6⟩
  have Q6 := Q5.tr hb6
  go_wp2_with fail
  refine (c_spec_FollowGroups X H _ _ (HR.out.below Q6)).mono ?_; rintro e w7 ⟨vg2, rfl, og2, hb7⟩
  have Q7 := Q6.tr hb7
  go_wp2_with fail
  refine (c_impl_CenterOf X H _ _ (HR.out.below Q7)).mono ?_; rintro e w8 ⟨rfl, hb8⟩
  have Q8 := Q7.tr hb8
  go_wp2_with fail
  refine (c_spec_CenterOf X H _ _ (HR.out.below Q8)).mono ?_; rintro e w9 ⟨rfl, hb9⟩
  have Q9 := Q8.tr hb9
  have P9 := Lib.hid (((((((op.rd.below hb3).below hb4).below hb5).below hb6).below hb7).below hb8).below hb9)
  have P9' := Lib.hid ((((((op2.rd.below hb4).below hb5).below hb6).below hb7).below hb8).below hb9)
  have O9 := Lib.hid (((((oo.rd.below hb5).below hb6).below hb7).below hb8).below hb9)
  have O9' := Lib.hid ((((oo2.rd.below hb6).below hb7).below hb8).below hb9)
  have G9 := Lib.hid (((og.rd.below hb7).below hb8).below hb9)
  have G9' := Lib.hid ((og2.rd.below hb8).below hb9)
  have HR9 := Lib.hid (HR.out.below Q9)
  have BB9 := B1.tr Q9
  obtain ⟨ap, cp, rfl, -, -⟩ := op.rd
  obtain ⟨ap2, cp2, rfl, -, -⟩ := op2.rd
  obtain ⟨ao, co, rfl, -, -⟩ := oo.rd
  obtain ⟨ao2, co2, rfl, -, -⟩ := oo2.rd
  obtain ⟨ag, cg, rfl, -, -⟩ := og.rd
  obtain ⟨ag2, cg2, rfl, -, -⟩ := og2.rd
  clear op op2 oo oo2 og og2 hb2 hb3 hb4 hb5 hb6 hb7 hb8 hb9 Q2 Q3 Q4 Q5 Q6 Q7 Q8 Q9 HR B1 HB0
  obtain ⟨C, hC⟩ : ∃ C, tpC X H = C := ⟨_, rfl⟩
  obtain ⟨S, hS⟩ : ∃ S, someC X H = S := ⟨_, rfl⟩
  obtain ⟨T, hT⟩ : ∃ T, tabC X H = T := ⟨_, rfl⟩
  obtain ⟨L, hL⟩ : ∃ L, stL X H = L := ⟨_, rfl⟩
  obtain ⟨I, hI⟩ : ∃ I, ceI X H = I := ⟨_, rfl⟩
  obtain ⟨P, hP⟩ : ∃ P, tpX X H = P := ⟨_, rfl⟩
  obtain ⟨O, hO⟩ : ∃ O, stO X H = O := ⟨_, rfl⟩
  obtain ⟨G, hG⟩ : ∃ G, fgL X H = G := ⟨_, rfl⟩
  rw [hP] at P9 P9' ⊢
  rw [hO] at O9 O9' ⊢
  rw [hG] at G9 G9' ⊢
  rw [hC, hS, hT, hL, hI]
  have HC := Lib.hid hC
  have HS := Lib.hid hS
  have HT := Lib.hid hT
  have HL := Lib.hid hL
  have HP := Lib.hid hP
  have HO := Lib.hid hO
  have HG := Lib.hid hG
  clear hC hS hT hL hI hP hO hG
  have t1 : (C != C) = false := by simp
  have t2 : (S != S) = false := by simp
  have t3 : (T != T) = false := by simp
  have t4 : (L != L) = false := by simp
  have t5 : (I != I) = false := by simp
  go_wp2_with fail
  refine (c_laws_f6ints P _ _ _ P9.out P9'.out).mono ?_; rintro e w10 ⟨rfl, hb10⟩
  go_wp2_with fail
  refine (c_laws_f6ints O _ _ _ (O9.out.below hb10) (O9'.out.below hb10)).mono ?_; rintro e w11 ⟨rfl, hb11⟩
  have Q11 := hb10.tr hb11
  by_cases hs : S = 0
  rotate_left
  · have ts : (S != 0) = true := by simpa using hs
    go_wp2_with fail
    refine (c_laws_f6lists G _ _ _ (G9.out.below Q11) (G9'.out.below Q11)).mono ?_; rintro e w12 ⟨rfl, hb12⟩
    go_wp2
    go_ret
    exact ⟨rfl, BB9.tr (Q11.tr hb12)⟩
  subst hs
  obtain ⟨hc, hn0⟩ := some_okT HS.out
  have HCC := Lib.hid hc
  obtain ⟨hp, hlen, hz, hsum⟩ := st_facts HS.out
  have hle := st_least HS.out
  have hfg := fg_len HS.out
  have htp := tp_okV HS.out
  have hn8 := (tab_ok hc).2.1
  have hall := (tab_ok hc).2.2
  have hD := tab_far hc
  have hT0 : T = 0 := by rw [← HT.out]; exact hc
  subst hT0
  obtain ⟨n, hn⟩ : ∃ n, X.length = n := ⟨_, rfl⟩
  have HV0 : Hid (validP (X.getD 0 []) = true) := (hall 0 (by omega)).1
  rw [HO.out] at hp hlen hz hsum
  rw [HL.out] at hsum hle
  rw [HG.out] at hfg
  rw [hn] at hp hlen hsum hle hfg hn0 hn8 hXl ⊢
  rw [hlen] at hsum ⊢
  have HNN := Lib.hid hn
  have HLEN := Lib.hid hlen
  have hOI : Hid (∀ i, i < n → oI O i < n ∧ O.getD i 0 = (oI O i : Int)) := fun i hi => oI_lt hp (by rw [hlen]; exact hi)
  have HPO := Lib.hid hp
  have HF1 : Hid (∀ i, i < n → 0 ≤ tabD X H (oI O i) (oI O ((i + 1) % n)) ∧ tabD X H (oI O i) (oI O ((i + 1) % n)) ≤ 1024) := fun i hi => hD _ _ (by rw [hn]; exact (hOI.out i hi).1) (by rw [hn]; exact (hOI.out _ (Nat.mod_lt _ (by omega))).1)
  have HF2 : Hid (∀ i, i < n → 0 ≤ tabD X H i ((i + 1) % n) ∧ tabD X H i ((i + 1) % n) ≤ 1024) := fun i hi => hD _ _ (by omega) (by rw [hn]; exact Nat.mod_lt _ (by omega))
  have HB1 := Lib.hid (sumT_bd HF1.out)
  have HB2 := Lib.hid (sumT_bd HF2.out)
  have HSUM := Lib.hid hsum
  have HLE := Lib.hid hle
  have HFG := Lib.hid hfg
  have HTP := Lib.hid htp
  have HZ := Lib.hid hz
  clear hp hz hsum hle hfg htp hall hD hlen
  go_wp2_with fail
  refine (c_laws_f6lists G _ _ _ (G9.out.below Q11) (G9'.out.below Q11)).mono ?_; rintro e w12 ⟨rfl, hb12⟩
  have Q12 := Q11.tr hb12
  have HR12 := HR9.out.below Q12
  go_wp2_with fail
  refine (c_spec_TransitionTable X H _ _ (by rw [hn] at HR12; exact HR12)).mono ?_; rintro e w13 ⟨vt, rfl, ot, hb13⟩
  rw [HT.out]
  have ht : RdTab n (tabD X H) w13 vt := by
    have h := ot.rd
    unfold ttL at h
    rw [if_pos HCC.out] at h
    have h := tab_rd h
    rw [HNN.out] at h
    exact h
  have Q13 := Q12.tr hb13
  obtain ⟨at1, ct, rfl, hct⟩ := ht
  have HCT := Lib.hid hct
  obtain ⟨F, hF⟩ : ∃ F : Nat → Int, F = fun i => tabD X H (oI O i) (oI O ((i + 1) % n)) := ⟨_, rfl⟩
  obtain ⟨K, hK⟩ : ∃ K : Nat → Int, K = fun i => tabD X H i ((i + 1) % n) := ⟨_, rfl⟩
  rw [← hF] at HB1 HSUM
  rw [← hK] at HB2 HLE
  replace HF1 : Hid (∀ i, i < n → 0 ≤ F i ∧ F i ≤ 1024) := fun i hi => by rw [hF]; exact HF1.out i hi
  replace HF2 : Hid (∀ i, i < n → 0 ≤ K i ∧ K i ≤ 1024) := fun i hi => by rw [hK]; exact HF2.out i hi
  have HFD : Hid (∀ i, F i = tabD X H (oI O i) (oI O ((i + 1) % n))) := fun i => by rw [hF]
  have HKD : Hid (∀ i, K i = tabD X H i ((i + 1) % n)) := fun i => by rw [hK]
  have HFS : Hid (∀ k, sumN F (k + 1) = sumN F k + F k) := fun k => rfl
  have HKS : Hid (∀ k, sumN K (k + 1) = sumN K k + K k) := fun k => rfl
  have HF0 : Hid (sumN F 0 = 0) := rfl
  have HK0 : Hid (sumN K 0 = 0) := rfl
  have O13 := Lib.hid (O9'.out.below Q13)
  have G13 := Lib.hid (G9.out.below Q13)
  have P13 := Lib.hid (P9.out.below Q13)
  have R13 := Lib.hid (HR9.out.below Q13)
  have BB13 := BB9.tr Q13
  clear ot hct hF hK Q13 Q12 Q11 hb10 hb11 hb12 hb13 O9 O9' G9 G9' P9 P9' HR9 HR12 BB9
  go_wp2_with (at_make; refine make_bool rfl _ _ _ _ rfl Try.underlying40 infoB w13.heap.size _ _ _ _ _ n rfl rfl rfl rfl (by omega) (Nat.le_refl _) ?_; intro w14 hbools hbel hsz)
  have hb14 : Below w13.heap.size w13 w14 := hbel w13 (Below.refl _ _)
  clear hbel
  go_loopw [26, 27, 29] (fun s p i wr => ∃ k : Nat, k ≤ n ∧ i = .int .i64 k ∧ s = .int .i64 (sumN F k) ∧ p = .int .i64 (sumN K k) ∧ BoolsAt wr w13.heap.size n (seenF O k) ∧ Upd w13.heap.size (w13.heap.size + 1) w14 wr) (fun _ _ i _ => n - (intOf i).toNat)
  case atStart => exact ⟨0, by omega, by go_num, by rw [HF0.out], by rw [HK0.out], hbools, Upd.of_below (Below.refl _ _)⟩
  case round =>
    clear hbools
    obtain ⟨k, hk, rfl, rfl, rfl, hbo, UR⟩ := hrel
    obtain ⟨wo, rfl⟩ : ∃ wo : World, wo = wr := ⟨_, rfl⟩
    have BR : Below w13.heap.size w13 wo := hb14.trans (UR.below (Nat.le_refl _) hb14.size)
    by_cases hlt : k < n
    · obtain ⟨hA, hOk⟩ := hOI.out k hlt
      obtain ⟨J, hJ⟩ : ∃ J, (k + 1) % n = J := ⟨_, rfl⟩
      have hJn : J < n := by rw [← hJ]; exact Nat.mod_lt _ (by omega)
      obtain ⟨hA2, hOj⟩ := hOI.out J hJn
      have hmod : ((k : Int) + 1) % (n : Int) = (J : Int) := by rw [← hJ]; push_cast; rfl
      have hFk := HFD.out k
      have hKk := HKD.out k
      rw [hJ] at hFk hKk
      have hseen := seenF_not HPO.out (by rw [HLEN.out]; exact hlt) k (Nat.le_refl _)
      obtain ⟨A, eA⟩ : ∃ A, oI O k = A := ⟨_, rfl⟩
      obtain ⟨A2, eA2⟩ : ∃ A2, oI O J = A2 := ⟨_, rfl⟩
      rw [eA] at hA hOk hFk hseen
      rw [eA2] at hA2 hOj hFk
      have hst : Hid (∀ v, (if v = A then true else seenF O k v) = seenF O (k + 1) v) := fun v => by rw [← eA]; rfl
      obtain ⟨_, _, he, -, hc⟩ := O13.out.below BR
      cases he
      obtain ⟨b1, o1, he1, x1⟩ := hc k (by rw [HLEN.out]; exact hlt)
      obtain ⟨b2, o2, he2, x2⟩ := hc J (by rw [HLEN.out]; exact hJn)
      subst he1
      cases he2
      rw [hOk] at x1
      rw [hOj] at x2
      obtain ⟨bt, off, bi, oi, ci, he3, y1, hy⟩ := HCT.out A hA
      have y2 := hy A2 hA2
      obtain ⟨bt', off', bk, ok, ck, he4, z1, hz2⟩ := HCT.out k hlt
      have z2 := hz2 J hJn
      subst he3
      cases he4
      rw [← hFk] at y2
      rw [← hKk] at z2
      have l1 : b1 < w13.heap.size := by
        obtain ⟨_, _, he, -, hc'⟩ := O13.out
        cases he
        obtain ⟨b1', o1', he1, x1'⟩ := hc' k (by rw [HLEN.out]; exact hlt)
        cases he1
        exact World.block_lt_of_cell? _ _ x1'
      have l2 : bt < w13.heap.size := World.block_lt_of_cell? _ _ y1
      have l3 : bi < w13.heap.size := World.block_lt_of_cell? _ _ y2
      have l4 : bk < w13.heap.size := World.block_lt_of_cell? _ _ z2
      have y1 := keepc BR y1
      have y2 := keepc BR y2
      have z1 := keepc BR z1
      have z2 := keepc BR z2
      obtain ⟨sA, fA⟩ := hbo A hA
      rw [hseen] at sA
      have hbo2 := hbo.store A hA true
      have hbo3 : BoolsAt (wo.setCell ⟨w13.heap.size, A, none⟩ (.bool true)) w13.heap.size n (seenF O (k + 1)) := fun v hv => by rw [← hst.out v]; exact hbo2 v hv
      have hset : wo.grownBy (wo.setCell ⟨w13.heap.size, A, none⟩ (.bool true)) (some w13.heap.size) := grownBy_setCells wo w13.heap.size [.bool true] A
      have US := UR.trans (Upd.of_grown (lo := w13.heap.size) (hi := w13.heap.size + 1) hset (fun q hq => by simp only [Option.some.injEq] at hq; omega))
      have x1s := grown_c hset x1 (by simp only [ne_eq, Option.some.injEq]; omega)
      have x2s := grown_c hset x2 (by simp only [ne_eq, Option.some.injEq]; omega)
      have y1s := grown_c hset y1 (by simp only [ne_eq, Option.some.injEq]; omega)
      have y2s := grown_c hset y2 (by simp only [ne_eq, Option.some.injEq]; omega)
      have z1s := grown_c hset z1 (by simp only [ne_eq, Option.some.injEq]; omega)
      have z2s := grown_c hset z2 (by simp only [ne_eq, Option.some.injEq]; omega)
      have hin0 : (0 : Int) ≤ (k : Int) := Int.natCast_nonneg _
      have hin1 : (k : Int) < (n : Int) := by omega
      have hin2 : (J : Int) < (n : Int) := by omega
      have hin3 : (A : Int) < (n : Int) := by omega
      have hin4 : (A2 : Int) < (n : Int) := by omega
      have hin5 : (0 : Int) ≤ (A : Int) := Int.natCast_nonneg _
      have hin6 : (0 : Int) ≤ (A2 : Int) := Int.natCast_nonneg _
      have hin7 : (0 : Int) ≤ (J : Int) := Int.natCast_nonneg _
      have hs1 := HB1.out k hk
      have hs2 := HB2.out k hk
      have hf1 := HF1.out k hlt
      have hf2 := HF2.out k hlt
      have hnz : ¬ (n : Int) = 0 := by omega
      have E1 := Lib.hid (HFS.out k)
      have E2 := Lib.hid (HKS.out k)
      clear hbo hbo2 hc hy hz2 hA hA2 hOk hOj hFk hKk hseen eA eA2 hJ hset UR BR
      go_wp2_with fail
      generalize (wo.setCell ⟨w13.heap.size, A, none⟩ (.bool true)) = ws at *
      clear x1 x2 y1 y2 z1 z2 sA fA
      go_quiet (fail)
      go_wp2_with fail
      go_quiet (fail)
      go_wp2_with fail
      go_roundw
      case rel => exact ⟨k + 1, by omega, by go_num, by rw [E1.out], by rw [E2.out], hbo3.below ((Below.refl _ _).drN _), US.trans (Upd.of_below ((Below.refl _ _).drN _))⟩
      case measure => simp [intOf]; omega
    · have hkn : n = k := by omega
      subst hkn
      obtain ⟨M, hM⟩ : ∃ M, sumN K n = M := ⟨_, rfl⟩
      have hLM : L ≤ M := by rw [← hM]; exact HLE.out
      rw [← HSUM.out, hM]
      have hMb := HB2.out n (Nat.le_refl _)
      have hLb := HB1.out n (Nat.le_refl _)
      rw [hM] at hMb
      rw [← HSUM.out] at hLb
      obtain ⟨_, _, he, -, hc⟩ := O13.out.below BR
      cases he
      obtain ⟨b1, o1, he1, x1⟩ := hc 0 (by rw [HLEN.out]; omega)
      subst he1
      rw [HZ.out] at x1
      have x1 : wo.cell? ⟨b1, o1, none⟩ = some (.int .i64 0) := x1
      have G20 := Lib.hid (G13.out.below BR)
      have P20 := Lib.hid (P13.out.below BR)
      have R20 := Lib.hid (R13.out.below BR)
      have BB20 := BB13.trans (BR.mono BB13.size)
      have hin0 : (0 : Int) < (n : Int) := by omega
      clear hbo UR hc hM G13 P13 R13 BB13 BR hb14
      go_wp2
      go_loopw [30, 31] (fun a i wr => ∃ k : Nat, k ≤ G.length ∧ i = .int .i64 k ∧ a = .int .i64 (sumLen (G.take k) : Int) ∧ wo = wr) (fun _ i _ => G.length - (intOf i).toNat)
      case atStart => exact ⟨0, by omega, by go_num, by simp [sumLen], rfl⟩
      case round =>
        obtain ⟨m, hm, rfl, rfl, rfl⟩ := hrel
        have hsl := sumLen_le G m
        rw [HFG.out] at hsl
        by_cases hlt2 : m < G.length
        · obtain ⟨_, _, he, hGl, hcg⟩ := G20.out
          cases he
          obtain ⟨bg, og, ug, rfl, xg, hrg⟩ := hcg m hlt2
          obtain ⟨ar, cr, rfl, -, -⟩ := hrg
          have HSN := Lib.hid (sumLen_snoc G m hlt2)
          have hle2 := sumLen_le G (m + 1)
          rw [HFG.out, HSN.out] at hle2
          obtain ⟨Y, hY⟩ : ∃ Y, (G.getD m []).length = Y := ⟨_, rfl⟩
          obtain ⟨Z, hZ⟩ : ∃ Z, sumLen (G.take m) = Z := ⟨_, rfl⟩
          rw [hY, hZ] at HSN hle2
          rw [hY] at xg
          rw [hZ]
          rw [hZ] at hsl
          have hin1 : (m : Int) < (G.length : Int) := by omega
          have hin2 : (0 : Int) ≤ (m : Int) := Int.natCast_nonneg _
          clear hcg
          go_wp2
          go_roundw
          case rel => exact ⟨m + 1, by omega, by go_num, by rw [HSN.out]; push_cast; rfl, by trivial⟩
          case measure => simp [intOf]; omega
        · have hmG : m = G.length := by omega
          have hfull : sumLen (G.take m) = n := by rw [hmG, List.take_length]; exact HFG.out
          rw [hfull]
          have hinG : ¬ (m : Int) < (G.length : Int) := by omega
          by_cases hc0 : C = 0
          · subst hc0
            have htp : (tpL X H).length ≤ 12 ∧ P = tpL X H := by
              have h1 := HC.out
              unfold tpC at h1
              rw [if_pos HS.out] at h1
              have h12 : ¬ (tpL X H).length > 12 := fun hg => by rw [if_pos hg] at h1; cases h1
              refine ⟨by omega, ?_⟩
              rw [← HP.out]
              unfold tpX
              rw [if_pos HS.out, if_neg h12]
            obtain ⟨hvp, hpp⟩ := HTP.out htp.1
            rw [← htp.2] at hvp hpp
            have HVP := Lib.hid hvp
            have HPP := Lib.hid hpp
            clear htp hvp hpp
            go_wp2_with fail
            refine (c_impl_PropsOf P _ _ P20.out HVP.out).mono ?_; rintro e w21 ⟨rfl, hb21⟩
            obtain ⟨_, _, he, -, hcx⟩ := R20.out
            cases he
            obtain ⟨bx, ox, ux, rfl, xx, hrx⟩ := hcx 0 (by rw [HNN.out]; omega)
            have xx : wo.cell? ⟨bx, ox, none⟩ = some ux := xx
            have xx := keepc hb21 xx
            clear hcx
            go_wp2_with fail
            refine (c_impl_PropsOf (X.getD 0 []) _ _ (hrx.below hb21) HV0.out).mono ?_; rintro e w22 ⟨rfl, hb22⟩
            rw [HPP.out]
            obtain ⟨Z, hZ⟩ : ∃ Z, propsP (X.getD 0 []) = Z := ⟨_, rfl⟩
            rw [hZ]
            have tz : (Z == Z) = true := by simp
            have Q22 := hb21.tr hb22
            go_wp2_with fail
            refine (c_impl_ValidPattern P _ _ (P20.out.below Q22)).mono ?_; rintro e w23 ⟨rfl, hb23⟩
            rw [HVP.out]
            go_wp2
            go_ret
            exact ⟨by simp, BB20.tr (Q22.tr hb23)⟩
          · have tcc : (C != 0) = true := by simpa using hc0
            go_wp2
            go_ret
            exact ⟨rfl, BB20⟩
theorem own : ownKnob Try.prog.godebug = none := by kernel_rfl
theorem laidOut : laidOutB Try.prog = true := by kernel_rfl
set_option maxRecDepth 100000 in
theorem lifted (os : Os) (started : os.Started) (H : Type) (enc : TypeId × Value → H) :
    ReturnsInHanded {} Try.checked os 4 .any (Rows.fnToursSpec.pre6 enc Try.prog Try.f4 Rows.fnToursRow.domain false) (Rows.fnToursSpec.post enc Try.prog Try.f4 false true false false) := by
  refine returnsInHanded_of_change (C := Try.checked) own started (by kernel_rfl) Try.func4
    (ChangeSpec.witness6 (enc := enc) (C := Try.checked) false ⟨#[], #[.slice none 0 0], []⟩ 8 (by kernel_rfl) (by kernel_rfl) (by kernel_rfl) (by kernel_rfl)) ?_
  intro W base args ds gs before hval0 hW hcnd _
  have hval : ∀ (j : Nat) t v, Try.f4.params[j]? = some t → args[j]? = some v → Value.okWide Try.prog W .any base t v := hval0
  have hW' := hW
  obtain ⟨p, q, hA0, hV, rfl, hfz, hnd⟩ := hW
  have hA : DataW.TrodAll enc Try.prog W 0 (fun _ => true) true Try.f4.params.toList args.toList ds p := hA0
  rw [Try.params4] at hA hval
  obtain ⟨v0, vs0, d0, ds0, p0, q0, hargs, rfl, rfl, h0, r0⟩ := trodAll_cons hA
  obtain ⟨rfl, rfl, rfl⟩ := trodAll_nil r0
  obtain rfl : args = #[v0] := by cases args; simp_all
  obtain ⟨rfl, rfl⟩ := trodVars_none hV
  have k0 := h0
  have lt0 : ∀ x ∈ p0, x.block < W.heap.size := by obtain ⟨m, hm⟩ := k0; exact DataW.trod_lt m _ _ _ hm
  have a0 := open_bytes (hval 0 22 v0 rfl rfl) h0
  clear hA0 hval0
  refine (walk v0 W a0).mono fun e W' ⟨he, bel⟩ => ?_
  subst he
  exact ⟨_, rfl, _, _, _, [], _, [], hW', trodAll_mk1 (shut_bool Try.underlying4 _), (trodAll_cons_mk (Below.trod laidOut (by kernel_rfl) (of_decide_eq_true (by kernel_rfl)) k0 bel lt0) trodAll_mk0), rfl, bel.frame _, fun h => by cases h⟩
theorem over : Rows.fnToursRow.holds Try.pinned (OpenSpec.ofChange Rows.fnToursSpec) :=
  OpenClaim.holds_of_wide 4 Try.f4 rfl rfl rfl rfl rfl rfl rfl ⟨rfl, rfl, rfl, rfl, rfl⟩ rfl rfl rfl rfl rfl (by kernel_rfl) Try.func4 (by kernel_rfl)
    (of_decide_eq_true (by kernel_rfl)) (by unfold Func.isWrapper; first | (rw [if_pos (by decide +kernel)]; kernel_rfl) | (rw [if_neg (by decide +kernel)]; exact ⟨rfl, rfl⟩))
    (fun os started H enc _ => lifted os started H enc)
theorem proved : Rows.FnToursSaid := over
end fnTours
end Go.Proofs.Ytjjghmmpfnlpaaa
