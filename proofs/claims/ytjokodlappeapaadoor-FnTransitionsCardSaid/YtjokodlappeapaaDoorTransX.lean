/- The law FnTransitions returns true for all slices of bytes. The row lists strconv's tables as the program's text lays them (the card ties them). -/
import Derived.Test.YtjokodlappeapaaDoorPlainTr
import Derived.Test.YtjokodlappeapaaDoorDrT
import Derived.Test.YtjokodlappeapaaDoorLawX
import Derived.Test.YtjokodlappeapaaDoorTabT
import Derived.Test.YtjokodlappeapaaDoorBrT
import Derived.Test.YtjokodlappeapaaDoorTrans
namespace Go.Proofs.YtjokodlappeapaaDoor
open Go.ChangeShapes Go.WideShapes Go.ChangeAt Go.RowKit
set_option linter.unusedSimpArgs false
set_option linter.unusedVariables false
namespace fnTransitions
theorem c_spec_DrawTransitionTable (bs : List Int) (v : Value) (w : World) (h : RdB w v bs) :
    Calls Tryd.prog 29 #[v] w fun e w' => ∃ (u : Value) (X : List (List Int)) (H : Int), e = .returned (.tuple #[u, .int .i64 H]) ∧ RdG w' u X ∧ Below w.heap.size w w' := by
  go_enter Tryd.func29, Tryd.ntmps29
  go_wp2_with fail
  refine (c_spec_l00From bs v _ h).mono ?_; rintro e w1 ⟨rfl, S1, hb1⟩
  go_wp2_with fail
  refine (c_spec_l23Draw w _ _ bs _ S1 (by omega)).mono ?_; rintro e w2 ⟨u, X, H, k2, rfl, hr, -, S2, U2⟩
  go_wp2
  go_ret2
  exact ⟨u, X, H, rfl, hr, S2.hb⟩
theorem bt_at {X : List (List Int)} {h : Int} (hc : tabC X h = 0) {i k : Nat} (hi : i < X.length) (hk : k < X.length) : ∃ S, (brRow X h i X.length)[k]? = some S ∧ (S.size : Int) = tabD X h i k := by
  refine ⟨hexT (bridgeL (X.getD i []) (X.getD k []) h), by simp [brRow, hk], ?_⟩
  rw [hexT_size]
  exact (bridge_far hc hi hk).1
theorem bt_row {X : List (List Int)} {h : Int} (hc : tabC X h = 0) {i : Nat} (hi : i < X.length) : (btX X h).getD i [] = brRow X h i X.length := by
  unfold btX brTab
  rw [if_pos hc]
  simp [List.getD, hi]
theorem bt_len {X : List (List Int)} {h : Int} (hc : tabC X h = 0) : (btX X h).length = X.length := by
  unfold btX
  rw [if_pos hc, brTab_len]
theorem tt_len {X : List (List Int)} {h : Int} (hc : tabC X h = 0) : (ttL X h).length = X.length := by
  unfold ttL
  rw [if_pos hc]
  unfold tabL amongL
  rw [amongTo_len, fstL_len]
set_option maxHeartbeats 16000000 in
set_option maxRecDepth 100000 in
theorem walk (v0 : Value) (w : World) (hT : Tab w) (a0 : Arg_bytes w v0) : Calls Tryd.prog 8 #[v0] w fun e w' => e = .returned (.bool true) ∧ Below w.heap.size w w' := by
  obtain ⟨bs, hb0⟩ := a0
  have HB0 := Lib.hid hb0
  have HTB := Lib.hid hT
  clear hT
  obtain ⟨aa, ca, rfl, hla, -, -⟩ := hb0
  cases hlong : decide ((bs.length : Int) > 4096)
  rotate_left
  · go_enter Tryd.func8, Tryd.ntmps8
    go_wp2_with fail
    refine (c_laws_f6big _ _ _ _ (by omega)).mono ?_; rintro e w1 ⟨rfl, rfl⟩; rw [hlong]
    go_wp2
    go_ret
    exact ⟨rfl, by (repeat (first | (with_reducible assumption) | (with_reducible exact Below.refl _ _) | (with_reducible refine Below.setCell ?_ (by first | (simp; done) | (simp; omega)) _) | (with_reducible refine Below.al ?_ _) | (with_reducible refine Below.dr ?_) | (with_reducible refine Below.drN ?_ _) | (with_reducible refine Below.tr ?_ (by with_reducible assumption))))⟩
  go_enter Tryd.func8, Tryd.ntmps8
  go_wp2_with fail
  refine (c_laws_f6big _ _ _ _ (by omega)).mono ?_; rintro e w1 ⟨rfl, rfl⟩; rw [hlong]
  go_wp2_with fail
  refine (c_spec_DrawTransitionTable bs _ _ HB0.out).mono ?_; rintro e w1 ⟨u, X, H, rfl, hr, B1⟩
  have HR := Lib.hid hr
  have HT1 := Lib.hid (tab_below HTB.out B1)
  obtain ⟨au, cu, rfl, hXl, -⟩ := hr
  go_wp2_with fail
  refine (c_impl_TransitionTable X H _ _ HR.out).mono ?_; rintro e w2 ⟨vt, rfl, ot, hb2⟩
  have Q2 := hb2
  go_wp2_with fail
  refine (c_spec_TransitionTable X H _ _ (HR.out.below Q2)).mono ?_; rintro e w3 ⟨vt2, rfl, ot2, hb3⟩
  have Q3 := Q2.tr hb3
  go_wp2_with fail
  refine (c_impl_BridgeTexts X H _ _ (HR.out.below Q3)).mono ?_; rintro e w4 ⟨vb, rfl, ob, hb4⟩
  have Q4 := Q3.tr hb4
  go_wp2_with fail
  refine (c_spec_BridgeTexts X H _ _ (HR.out.below Q4)).mono ?_; rintro e w5 ⟨vb2, rfl, ob2, hb5⟩
  have Q5 := Q4.tr hb5
  go_wp2_with fail
  refine (c_impl_TableLines X H _ _ (HR.out.below Q5) (tab_below HT1.out Q5)).mono ?_; rintro e w6 ⟨vl, rfl, ol, hb6⟩
  have Q6 := Q5.tr hb6
  go_wp2_with fail
  refine (c_spec_TableLines X H _ _ (HR.out.below Q6)).mono ?_; rintro e w7 ⟨vl2, rfl, ol2, hb7⟩
  have Q7 := Q6.tr hb7
  go_wp2_with fail
  refine (c_impl_FarthestPair X H _ _ (HR.out.below Q7)).mono ?_; rintro e w8 ⟨rfl, hb8⟩
  have Q8 := Q7.tr hb8
  go_wp2_with fail
  refine (c_spec_FarthestPair X H _ _ (HR.out.below Q8)).mono ?_; rintro e w9 ⟨rfl, hb9⟩
  have Q9 := Q8.tr hb9
  have T9 := Lib.hid (((((((ot.rd.below hb3).below hb4).below hb5).below hb6).below hb7).below hb8).below hb9)
  have T9' := Lib.hid ((((((ot2.rd.below hb4).below hb5).below hb6).below hb7).below hb8).below hb9)
  have B9 := Lib.hid ((((((ob.rd rowT_len).below hb5).below hb6).below hb7).below hb8).below hb9)
  have B9' := Lib.hid (((((ob2.rd rowT_len).below hb6).below hb7).below hb8).below hb9)
  have L9 := Lib.hid ((((ol.rd rowT_len).below hb7).below hb8).below hb9)
  have L9' := Lib.hid (((ol2.rd rowT_len).below hb8).below hb9)
  have BB9 := B1.tr Q9
  obtain ⟨at1, ct, rfl, -, -⟩ := ot.rd
  obtain ⟨at2, ct2, rfl, -, -⟩ := ot2.rd
  obtain ⟨ab, cb, rfl, -, -⟩ := ob.rd rowT_len
  obtain ⟨ab2, cb2, rfl, -, -⟩ := ob2.rd rowT_len
  obtain ⟨al, cl, rfl, -, -⟩ := ol.rd rowT_len
  obtain ⟨al2, cl2, rfl, -, -⟩ := ol2.rd rowT_len
  clear ot ot2 ob ob2 ol ol2 hb2 hb3 hb4 hb5 hb6 hb7 hb8 hb9 Q2 Q3 Q4 Q5 Q6 Q7 Q8 Q9 HR B1 HB0 HTB HT1
  obtain ⟨S, hS⟩ : ∃ S, someC X H = S := ⟨_, rfl⟩
  obtain ⟨T, hT⟩ : ∃ T, tabC X H = T := ⟨_, rfl⟩
  obtain ⟨A, hA⟩ : ∃ A, fpA X H = A := ⟨_, rfl⟩
  obtain ⟨B, hB⟩ : ∃ B, fpB X H = B := ⟨_, rfl⟩
  obtain ⟨M, hM⟩ : ∃ M, ttL X H = M := ⟨_, rfl⟩
  obtain ⟨E, hE⟩ : ∃ E, btX X H = E := ⟨_, rfl⟩
  obtain ⟨D, hD⟩ : ∃ D, tlL X H = D := ⟨_, rfl⟩
  rw [hM] at T9 T9' ⊢
  rw [hE] at B9 B9' ⊢
  rw [hD] at L9 L9' ⊢
  rw [hS, hT, hA, hB]
  have HS := Lib.hid hS
  have HT := Lib.hid hT
  have HA := Lib.hid hA
  have HB := Lib.hid hB
  have HM := Lib.hid hM
  have HE := Lib.hid hE
  clear hS hT hA hB hM hE hD
  have t1 : (S != S) = false := by simp
  have t2 : (T != T) = false := by simp
  have t3 : (A != A) = false := by simp
  have t4 : (B != B) = false := by simp
  have t5 : ((E.length : Int) != (E.length : Int)) = false := by simp
  go_wp2_with fail
  refine (c_laws_f6lists M _ _ _ T9.out T9'.out).mono ?_; rintro e w10 ⟨rfl, hb10⟩
  go_wp2_with fail
  refine (c_laws_f6texts D _ _ _ (L9.out.below hb10) (L9'.out.below hb10)).mono ?_; rintro e w11 ⟨rfl, hb11⟩
  have Q11 := hb10.tr hb11
  have BB11 := BB9.tr Q11
  obtain ⟨N, hN⟩ : ∃ N, M.length = N := ⟨_, rfl⟩
  rw [hN]
  have HN := Lib.hid hN
  by_cases hN0 : N = 0
  · clear hN
    subst hN0
    go_wp2
    go_loopw [24] (fun i wr => i = .int .i64 0 ∧ w11 = wr) (fun i _ => 0)
    case atStart => exact ⟨by go_num, rfl⟩
    case round =>
      obtain ⟨rfl, rfl⟩ := hrel
      go_wp2
      go_ret
      exact ⟨rfl, BB11⟩
  have hT0 : T = 0 := by
    refine Classical.byContradiction fun hne => ?_
    have : M = [] := by rw [← HM.out]; unfold ttL; rw [if_neg (by rw [HT.out]; exact hne)]
    rw [this] at hN
    exact hN0 hN.symm
  subst hT0
  have HC := HT
  have hNX : X.length = N := by rw [← hN, ← HM.out]; exact (tt_len HC.out).symm
  have hS0 : S = 0 := by
    rw [← HS.out]
    unfold someC
    rw [if_pos HC.out, if_neg (by omega)]
  subst hS0
  obtain ⟨a, b, ha, hb, hfa, hfb, hmax⟩ := fp_ok HS.out
  rw [HA.out] at hfa
  rw [HB.out] at hfb
  subst hfa hfb
  have hn8 := (tab_ok HC.out).2.1
  have htri : Hid (∀ i j k, i < N → j < N → k < N → tabD X H i k ≤ tabD X H i j + tabD X H j k) := fun i j k hi hj hk => tab_tri HC.out (by omega) (by omega) (by omega)
  have hbd : Hid (∀ i j, i < N → j < N → 0 ≤ tabD X H i j ∧ tabD X H i j ≤ 1024) := fun i j hi hj => tabD_bd HC.out i j (by omega) (by omega)
  have hself : Hid (∀ i, tabD X H i i = 0) := fun i => tab_self X H i
  have HMX : Hid (∀ i k, i < N → k < N → tabD X H i k ≤ tabD X H a b) := fun i k hi hk => hmax i k (by omega) (by omega)
  rw [hNX] at ha hb hn8
  have htab : RdTab N (tabD X H) w11 (.slice at2 N ct2) := by
    have h := T9'.out.below Q11
    rw [← HM.out] at h
    unfold ttL at h
    rw [if_pos HC.out] at h
    have e : (if tabC X H = 0 then tabL X H else []).length = N := by rw [if_pos HC.out]; rw [← hN, ← HM.out]; unfold ttL; rw [if_pos HC.out]
    have h2 := tab_rd h
    rw [hNX] at h2
    have e2 : (tabL X H).length = N := by rw [← hN, ← HM.out]; unfold ttL; rw [if_pos HC.out]
    rw [e2] at h2
    exact h2
  have htab1 : RdTab N (tabD X H) w11 (.slice at1 N ct) := by
    have h := T9.out.below Q11
    rw [← HM.out] at h
    unfold ttL at h
    rw [if_pos HC.out] at h
    have h2 := tab_rd h
    rw [hNX] at h2
    have e2 : (tabL X H).length = N := by rw [← hN, ← HM.out]; unfold ttL; rw [if_pos HC.out]
    rw [e2] at h2
    exact h2
  obtain ⟨_, _, he, hct⟩ := htab1
  cases he
  have HCT := Lib.hid hct
  have hEl : E.length = N := by rw [← HE.out, bt_len HC.out, hNX]
  have HEL := Lib.hid hEl
  have HER : Hid (∀ i, i < N → E.getD i [] = brRow X H i X.length) := fun i hi => by rw [← HE.out]; exact bt_row HC.out (by omega)
  have B11 := Lib.hid (B9.out.below Q11)
  have B11' := Lib.hid (B9'.out.below Q11)
  have HNX := Lib.hid hNX
  clear htab hct hEl hNX hmax hN T9 T9' B9 B9' L9 L9' Q11 hb10 hb11 BB9
  have tA : (0 : Int) ≤ (a : Int) ∧ (a : Int) < (N : Int) := by omega
  have tB : (0 : Int) ≤ (b : Int) ∧ (b : Int) < (N : Int) := by omega
  rw [HEL.out]
  clear t5
  go_wp2
  go_loopw [24] (fun q wr => ∃ k : Nat, k ≤ N ∧ q = .int .i64 k ∧ Below w11.heap.size w11 wr) (fun i _ => N - (intOf i).toNat)
  case atStart => exact ⟨0, by omega, by go_num, Below.refl _ _⟩
  case round =>
    obtain ⟨i, hi, rfl, BR⟩ := hrel
    obtain ⟨wo, rfl⟩ : ∃ wo : World, wo = wr := ⟨_, rfl⟩
    by_cases hlt : i < N
    · obtain ⟨_, _, he, -, hcb⟩ := B11.out.below BR
      cases he
      obtain ⟨bb, ob, u1, he1, xb, rb⟩ := hcb i (by rw [HEL.out]; exact hlt)
      subst he1
      obtain ⟨_, _, he, -, hcb2⟩ := B11'.out.below BR
      cases he
      obtain ⟨bb2, ob2, u2, he2, xb2, rb2⟩ := hcb2 i (by rw [HEL.out]; exact hlt)
      subst he2
      rw [HER.out i hlt] at rb rb2
      have hrl : (brRow X H i X.length).length = N := by rw [brRow_len]; exact HNX.out
      obtain ⟨bt, off, bi, oi, ci, he3, y1, hy⟩ := HCT.out i hlt
      subst he3
      have y0 := hy i hlt
      rw [hself.out] at y0
      have y1 := keepc BR y1
      have y0 := keepc BR y0
      have rb1d : RdRow 1 rowT wo.drew u1 (brRow X H i X.length) := rb
      have rb2d : RdRow 1 rowT wo.drew u2 (brRow X H i X.length) := rb2
      have RB1 := Lib.hid rb1d
      have RB2 := Lib.hid rb2d
      obtain ⟨as1, cs1, hu1, -, -⟩ := rb
      obtain ⟨as2, cs2, hu2, -, -⟩ := rb2
      rw [hrl] at hu1 hu2
      subst hu1 hu2
      have hin0 : (0 : Int) ≤ (i : Int) := Int.natCast_nonneg _
      have hin1 : (i : Int) < (N : Int) := by omega
      clear hcb hcb2 hy rb1d rb2d hrl
      go_wp2_with fail
      go_region_held3 (fun w' => w'.cell? ⟨bb, ob + i, none⟩ = some (.slice as1 N cs1) ∧ w'.cell? ⟨bb2, ob2 + i, none⟩ = some (.slice as2 N cs2) ∧ w'.cell? ⟨bt, off + i, none⟩ = some (.slice (some ⟨bi, oi, none⟩) N ci) ∧ w'.cell? ⟨bi, oi + i, none⟩ = some (.int .i64 0))
        (go_keep)
        ((go_at_call 39; refine (c_laws_f6texts _ _ _ _ RB1.out RB2.out).mono ?_; rintro e w4 ⟨rfl, hb4⟩; have hb4' := below_drew hb4; have xb := keepc hb4' xb; have xb2 := keepc hb4' xb2; have y1 := keepc hb4' y1; have y0 := keepc hb4' y0))
      have BR4 := BR.tr hb4'
      clear xb xb2 y1 y0 RB1 RB2 BR hb4' hb4
      go_wp2
      go_loopw [25] (fun q wr => ∃ k : Nat, k ≤ N ∧ q = .int .i64 k ∧ Below w11.heap.size w11 wr) (fun i _ => N - (intOf i).toNat)
      case atStart => exact ⟨0, by omega, by go_num, BR4⟩
      case round =>
        obtain ⟨k, hk, rfl, BK⟩ := hrel
        obtain ⟨wk, rfl⟩ : ∃ wk : World, wk = wr := ⟨_, rfl⟩
        by_cases hlt2 : k < N
        · obtain ⟨_, _, he, -, hcb⟩ := B11.out.below BK
          cases he
          obtain ⟨bb', ob', u1, he1, xb, rb⟩ := hcb i (by rw [HEL.out]; exact hlt)
          cases he1
          rw [HER.out i hlt] at rb
          have hrl : (brRow X H i X.length).length = N := by rw [brRow_len]; exact HNX.out
          obtain ⟨Sx, hSx, hsz⟩ := bt_at (X := X) (h := H) HC.out (i := i) (k := k) (by rw [HNX.out]; exact hlt) (by rw [HNX.out]; exact hlt2)
          obtain ⟨as1, cs1, hu1, hl1, hc1⟩ := rb
          have hkr : k < (brRow X H i X.length).length := by rw [hrl]; exact hlt2
          obtain ⟨bs, os, hes, hcs⟩ := hc1 k hkr
          have eS : (brRow X H i X.length)[k] = Sx := by
            rw [List.getElem?_eq_getElem hkr] at hSx
            exact Option.some.inj hSx
          have xs := hcs 0 (.string Sx) (by rw [eS]; rfl)
          have xs : wk.cell? ⟨bs, os + k, none⟩ = some (.string Sx) := by simpa using xs
          rw [hrl] at hu1
          subst hu1
          subst hes
          obtain ⟨bt', off', bi, oi, ci, he3, y1, hy⟩ := HCT.out i hlt
          cases he3
          have y2 := hy k hlt2
          rw [← hsz] at y2
          obtain ⟨bt', off', bia, oia, cia, he4, z1, hz⟩ := HCT.out a (by omega)
          cases he4
          have z2 := hz b (by omega)
          have hmx := HMX.out i k hlt hlt2
          rw [← hsz] at hmx
          obtain ⟨mx, hmxe⟩ : ∃ mx, tabD X H a b = mx := ⟨_, rfl⟩
          rw [hmxe] at z2 hmx
          have y1 := keepc BK y1
          have y2 := keepc BK y2
          have z1 := keepc BK z1
          have z2 := keepc BK z2
          obtain ⟨sz, hsze⟩ : ∃ sz : Nat, Sx.size = sz := ⟨_, rfl⟩
          have tgt : decide (mx < (Sx.size : Int)) = false := decide_eq_false (by omega)
          have hin2 : (0 : Int) ≤ (k : Int) := Int.natCast_nonneg _
          have hin3 : (k : Int) < (N : Int) := by omega
          clear hcb hy hz hc1 hcs hSx hsz eS hrl hkr hsze hmxe
          go_wp2_with fail
          go_quiet (fail)
          have BQ := BK.drN nq
          clear xb xs y1 y2 z1 z2 tgt hmx
          go_wp2_with fail
          go_loopw [26] (fun q wr => ∃ j : Nat, j ≤ N ∧ q = .int .i64 j ∧ Below w11.heap.size w11 wr) (fun i _ => N - (intOf i).toNat)
          case atStart => exact ⟨0, by omega, by go_num, BQ⟩
          case round =>
            obtain ⟨j, hj, rfl, BJ⟩ := hrel
            obtain ⟨wj, rfl⟩ : ∃ wj : World, wj = wr := ⟨_, rfl⟩
            by_cases hlt3 : j < N
            · obtain ⟨bt', off', bi, oi, ci, he3, y1, hy⟩ := HCT.out i hlt
              cases he3
              have y2 := hy k hlt2
              have y3 := hy j hlt3
              obtain ⟨bt', off', bij, oij, cij, he4, z1, hz⟩ := HCT.out j hlt3
              cases he4
              have z2 := hz k hlt2
              have htr := htri.out i j k hlt hlt3 hlt2
              have d1 := hbd.out i j hlt hlt3
              have d2 := hbd.out j k hlt3 hlt2
              obtain ⟨A1, e1⟩ : ∃ A1, tabD X H i k = A1 := ⟨_, rfl⟩
              obtain ⟨A2, e2⟩ : ∃ A2, tabD X H i j = A2 := ⟨_, rfl⟩
              obtain ⟨A3, e3⟩ : ∃ A3, tabD X H j k = A3 := ⟨_, rfl⟩
              rw [e1] at y2 htr
              rw [e2] at y3 htr d1
              rw [e3] at z2 htr d2
              have y1 := keepc BJ y1
              have y2 := keepc BJ y2
              have y3 := keepc BJ y3
              have z1 := keepc BJ z1
              have z2 := keepc BJ z2
              have hws : IntKind.i64.wrap (A2 + A3) = A2 + A3 := IntWalk.i64_in _ (by omega)
              have tgt : decide (A2 + A3 < A1) = false := decide_eq_false (by omega)
              have hin4 : (0 : Int) ≤ (j : Int) := Int.natCast_nonneg _
              have hin5 : (j : Int) < (N : Int) := by omega
              have hin6 : (0 : Int) ≤ (k : Int) := Int.natCast_nonneg _
              have hin7 : (k : Int) < (N : Int) := by omega
              clear hy hz e1 e2 e3
              go_wp2_with fail
              go_quiet (fail)
              go_wp2_with fail
              go_roundw
              case rel => exact ⟨j + 1, by omega, by go_num, BJ.drN _⟩
              case measure => simp [intOf]; omega
            · have hjN : ¬ (j : Int) < (N : Int) := by omega
              go_wp2
              go_roundw
              case rel => exact ⟨k + 1, by omega, by go_num, BJ⟩
              case measure => simp [intOf]; omega
        · have hkN : ¬ (k : Int) < (N : Int) := by omega
          go_wp2
          go_roundw
          case rel => exact ⟨i + 1, by omega, by go_num, BK⟩
          case measure => simp [intOf]; omega
    · have hiN : ¬ (i : Int) < (N : Int) := by omega
      go_wp2
      go_ret
      exact ⟨rfl, BB11.tr BR⟩
theorem own : ownKnob Tryd.prog.godebug = none := by kernel_rfl
theorem laidOut : laidOutB Tryd.prog = true := by kernel_rfl
theorem door_met (os : Os) (args : Array Value) : laidMetH Tryd.prog Rows.fnTransitionsRow.laid ((World.doorLaid Tryd.prog 24 os).forCall (fun _ _ => 0) ⟨#[], args, []⟩).memory :=
  laidMetH_of_parts3 (fuel := 8) (laidMet_of_run' 8 (by kernel_rfl) (by kernel_rfl)) (by kernel_rfl) (by kernel_rfl)
set_option maxRecDepth 100000 in
theorem lifted (os : Os) (started : os.Started) (H : Type) (enc : TypeId × Value → H) :
    ReturnsInHanded {} Tryd.checked os 8 .any (fun w args => (Rows.fnTransitionsSpec.pre enc Tryd.prog Tryd.f8 [] false w args ∧ laidMetH Tryd.prog Rows.fnTransitionsRow.laid w) ∧ sizedMet enc Tryd.prog Tryd.f8 (OpenSpec.ofChange Rows.fnTransitionsSpec) false w args)
      (Rows.fnTransitionsSpec.post enc Tryd.prog Tryd.f8 false true false false) := by
  refine returnsInHanded_of_change_and (C := Tryd.checked) (X := fun w _ => laidMetH Tryd.prog Rows.fnTransitionsRow.laid w) (fun _ _ _ hh h => h.of_heap hh) own started (by kernel_rfl) Tryd.func8
    (ChangeSpec.witness_shaped (enc := enc) (C := Tryd.checked) (os := os) (X := fun w _ => laidMetH Tryd.prog Rows.fnTransitionsRow.laid w) false (World.doorLaid Tryd.prog 24 os) #[.slice none 0 0] 8 rfl (World.shaped_of_RefB (by kernel_rfl) (by kernel_rfl)) (by kernel_rfl) (by kernel_rfl) (by kernel_rfl) (door_met os _)) ?_
  intro W base args ds gs before hval0 hW _ _ hL _
  have hval : ∀ (j : Nat) t v, Tryd.f8.params[j]? = some t → args[j]? = some v → Value.okWide Tryd.prog W .any base t v := hval0
  have hW' := hW
  obtain ⟨p, q, hA0, hV, rfl, hfz, hnd⟩ := hW
  have hA : DataW.TrodAll enc Tryd.prog W 0 (fun _ => true) true Tryd.f8.params.toList args.toList ds p := hA0
  rw [Tryd.params8] at hA hval
  obtain ⟨v0, vs0, d0, ds0, p0, q0, hargs, rfl, rfl, h0, r0⟩ := trodAll_cons hA
  obtain ⟨rfl, rfl, rfl⟩ := trodAll_nil r0
  obtain rfl : args = #[v0] := by cases args; simp_all
  obtain ⟨rfl, rfl⟩ := trodVars_none hV
  have k0 := h0
  have lt0 : ∀ x ∈ p0, x.block < W.heap.size := by obtain ⟨m, hm⟩ := k0; exact DataW.trod_lt m _ _ _ hm
  have a0 := open_bytes (hval 0 41 v0 rfl rfl) h0
  clear hA0 hval0
  refine (walk v0 W (tab_of hL) a0).mono fun e W' ⟨he, bel⟩ => ?_
  subst he
  exact ⟨_, rfl, _, _, _, [], _, [], hW', trodAll_mk1 (shut_bool Tryd.underlying4 _), (trodAll_cons_mk (Below.trod laidOut (by kernel_rfl) (of_decide_eq_true (by kernel_rfl)) k0 bel lt0) trodAll_mk0), rfl, bel.frame _, fun h => by cases h⟩
theorem over : Rows.fnTransitionsRow.holds Tryd.pinned (OpenSpec.ofChange Rows.fnTransitionsSpec) :=
  OpenClaim.holds_of_wide 8 Tryd.f8 rfl rfl rfl rfl rfl rfl rfl ⟨rfl, rfl, rfl, rfl, rfl⟩ rfl rfl rfl rfl rfl (by kernel_rfl) Tryd.func8 (by kernel_rfl)
    (of_decide_eq_true (by kernel_rfl)) (by unfold Func.isWrapper; first | (rw [if_pos (by decide +kernel)]; kernel_rfl) | (rw [if_neg (by decide +kernel)]; exact ⟨rfl, rfl⟩))
    (fun os started H enc _ => lifted os started H enc)
theorem proved : Rows.FnTransitionsCardSaid :=
  Claim7.holds_tied_plain_at .later [] Rows.fnTransitionsCard.laidKinds true Rows.fnTransitionsCard.stood.harness false
    over (fun _ h => by cases h) (by kernel_rfl) (fun _ h => by cases h) fnTransitions_row_tie rfl ⟨rfl, rfl⟩ (by kernel_rfl) rfl
    (fun f fn hf hfn => by
      obtain rfl : f = 8 := Option.some.inj ((show Tryd.prog.funcNamed Rows.fnTransitionsRow.func = some 8 by kernel_rfl).symm.trans hf) |>.symm
      obtain rfl : fn = Tryd.f8 := (Option.some.inj (Tryd.func8.symm.trans hfn)).symm
      exact ⟨by kernel_rfl, fun j t ht => by
        rw [Tryd.params8] at ht
        have hm : t ∈ [41] := by simpa using Array.mem_of_getElem? ht
        have hall : ([41].all fun u => !Tryd.prog.wantsStandIn u) = true := by kernel_rfl
        exact (show Tryd.prog.wantsStandIn t = false by simpa using List.all_eq_true.1 hall t hm)⟩)
    (by kernel_rfl)
end fnTransitions
end Go.Proofs.YtjokodlappeapaaDoor
