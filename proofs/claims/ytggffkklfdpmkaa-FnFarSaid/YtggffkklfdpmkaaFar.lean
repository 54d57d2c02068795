/- FnFar: distances grow by one at most along arcs, and the diameter is the greatest of them. Proved for every argument that the statement allows. -/
import Derived.Test.YtggffkklfdpmkaaPlainFa
import Derived.Test.YtggffkklfdpmkaaFarX
import Derived.Test.YtggffkklfdpmkaaDraw
import Derived.Test.YtggffkklfdpmkaaBools
namespace Go.Proofs.Ytggffkklfdpmkaa
open Go.ChangeShapes Go.WideShapes Go.ChangeAt Go.RowKit
set_option linter.unusedVariables false
namespace fnFar
theorem infoB : (Try.prog.info? 4).map (fun i => (i.zero, i.size, i.bytes)) = some (some (.bool false), 1, 1) := by kernel_rfl
set_option maxHeartbeats 8000000 in
set_option maxRecDepth 100000 in
theorem walk (v0 : Value) (w : World) (a0 : Arg_bytes w v0) : Calls Try.prog 11 #[v0] w fun e w' => e = .returned (.bool true) ∧ Below w.heap.size w w' := by
  obtain ⟨bs, hb⟩ := a0
  have hb' := hb
  obtain ⟨aa, ca, rfl, hla, -, -⟩ := hb'
  have HB := Lib.hid hb
  clear hb
  go_enter Try.func11, Try.ntmps11
  go_wp2_with fail
  refine (c_laws_a2Long aa none bs.length ca 0 0 _ hla (by omega)).mono ?_; rintro e w1 ⟨rfl, rfl⟩
  by_cases hlong : ((bs.length : Int) > 3000 ∨ ((0 : Nat) : Int) > 3000)
  · have hlt : (decide ((bs.length : Int) > 3000) || decide (((0 : Nat) : Int) > 3000)) = true := by simpa using hlong
    rw [hlt]
    go_wp2
    go_ret
    exact ⟨rfl, Below.refl _ _⟩
  have hlt : (decide ((bs.length : Int) > 3000) || decide (((0 : Nat) : Int) > 3000)) = false := by simpa using hlong
  rw [hlt]
  clear hlt hlong
  go_wp2_with fail
  refine (c_spec_A2Pair bs _ _ HB.out).mono ?_; rintro e w2 ⟨H, a, b, n, rfl, hH7, hn, ha, hbm, B2⟩
  have hh : 1 ≤ H ∧ H ≤ 10 := by omega
  have hhb : 0 ≤ H ∧ H ≤ 10 := by omega
  have hva := valid_mem hh ha
  have hvb := valid_mem hh hbm
  have hpa := (mem_maskL.1 ha).2
  have hgc := graph_ok hh hn
  have HIA := Lib.hid (idx_ok hh ha)
  have HIB := Lib.hid (idx_ok hh hbm)
  have HDX := Lib.hid (distX_ok hh ha)
  have HDV := Lib.hid (distV_ok hh ha hbm)
  have HLC := Lib.hid (link_ok hh ha hbm)
  have HVC := Lib.hid (validC_mem hh ha)
  have hiaL := idx_lt ha
  have hibL := idx_lt hbm
  have HFA : Hid (farAt n H a (idx (maskL n H) a) = 0) := (farAt_idx ha).trans (farM_self H a)
  have HFB : Hid (farAt n H a (idx (maskL n H) b) = farM H a b) := farAt_idx hbm
  have HBD := Lib.hid (fun i (hi : i < (maskL n H).length) => farAt_bd hh ha hi)
  have HARC := Lib.hid (fun (k : Nat) (hk : k < (arcsL (maskL n H) H).length) => arc_facts hh (List.getElem_mem hk))
  have HFARC := Lib.hid (fun (k : Nat) (hk : k < (arcsL (maskL n H) H).length) (i j : Nat) h1 h2 => farAt_arc (i := i) (j := j) hh ha (List.getElem_mem hk) h1 h2)
  have HPRED := Lib.hid (fun (j : Nat) (hj : j < (maskL n H).length) h0 => farAt_pred hh ha hj h0)
  have hml := maskL_len n H hh
  have hal := arcs_len' n H hh
  have HDI : Hid (diamC n H = diamV n H) := by unfold diamC; rw [hgc]; rfl
  have HAX : Hid (arcsX n H = arcsL (maskL n H) H) := by unfold arcsX; rw [hgc]; rfl
  clear hH7 hn
  have HFG := Lib.hid (fun (i : Nat) (hi : i < (maskL n H).length) => far_get (a := a) hi)
  have HFL : Hid (((maskL n H).map (farM H a)).length = (maskL n H).length) := List.length_map ..
  go_wp2_with fail
  obtain ⟨W0, hW0, k0, k1, k2, k3, B0⟩ := twoStates w2 36 H a H b
  rw [← hW0]
  clear hW0
  refine (c_impl_DistancesFrom H a _).mono ?_; rintro e w3 ⟨v3, rfl, ho3, hb3⟩
  rw [HVC.out]
  rw [HDX.out] at ho3
  obtain ⟨m3, cap3, rfl, hl3, hr3⟩ := ho3.rd
  have HR3 : Hid (∀ i : Nat, i < (maskL n H).length → ∃ b off, m3 = some ⟨b, off, none⟩ ∧ w3.cell? ⟨b, off + i, none⟩ = some (.int .i64 (farAt n H a i))) := fun i hi => by
    obtain ⟨b, off, h1, h2⟩ := hr3 i (by rw [HFL.out]; exact hi)
    rw [HFG.out i hi] at h2
    exact ⟨b, off, h1, h2⟩
  clear hr3 ho3 HFG HDX
  rw [HFL.out] at hl3 ⊢
  clear HFL
  have k0 := keepc hb3 k0
  have k1 := keepc hb3 k1
  have k2 := keepc hb3 k2
  have k3 := keepc hb3 k3
  go_wp2_with fail
  refine (c_impl_Distance H a H b _).mono ?_; rintro e w4 ⟨rfl, hb4⟩
  rw [HDV.out, HLC.out]
  have k0 := keepc hb4 k0
  have k1 := keepc hb4 k1
  have k2 := keepc hb4 k2
  have k3 := keepc hb4 k3
  go_wp2_with fail
  refine (c_spec_PropsIn H a _ hva).mono ?_; rintro e w5 ⟨rfl, hb5⟩
  rw [hpa]
  have k0 := keepc hb5 k0
  have k1 := keepc hb5 k1
  have k2 := keepc hb5 k2
  have k3 := keepc hb5 k3
  go_wp2_with fail
  refine (c_impl_Diameter n H _).mono ?_; rintro e w6 ⟨rfl, hb6⟩
  rw [HDI.out, hgc]
  have k0 := keepc hb6 k0
  have k1 := keepc hb6 k1
  have k2 := keepc hb6 k2
  have k3 := keepc hb6 k3
  go_wp2_with fail
  refine (c_spec_ArcsOf n H _).mono ?_; rintro e w7 ⟨v7, rfl, ho7, hb7⟩
  rw [hgc]
  rw [HAX.out] at ho7
  obtain ⟨m7, cap7, rfl, hl7, hr7⟩ := OwnRow.rd rowA_len ho7
  have HR7 := Lib.hid hr7
  clear hr7 ho7
  have k0 := keepc hb7 k0
  have k1 := keepc hb7 k1
  have k2 := keepc hb7 k2
  have k3 := keepc hb7 k3
  go_wp2_with fail
  refine (c_spec_StateCount n H _ hgc).mono ?_; rintro e w8 ⟨rfl, hb8⟩
  have k0 := keepc hb8 k0
  have k1 := keepc hb8 k1
  have k2 := keepc hb8 k2
  have k3 := keepc hb8 k3
  go_wp2_with fail
  refine (c_spec_StateIndex H a _ hva).mono ?_; rintro e w9 ⟨rfl, hb9⟩
  rw [HIA.out]
  have k2 := keepc hb9 k2
  have k3 := keepc hb9 k3
  go_wp2_with fail
  refine (c_spec_StateIndex H b _ hvb).mono ?_; rintro e w10 ⟨rfl, hb10⟩
  rw [HIB.out]
  have B3t : Below w3.heap.size w3 w10 := (((((hb4.tr hb5).tr hb6).tr hb7).tr hb8).tr hb9).tr hb10
  have B7t : Below w7.heap.size w7 w10 := (hb8.tr hb9).tr hb10
  have BT : Below w.heap.size w w10 := ((B2.tr B0).tr hb3).tr B3t
  clear k0 k1 k2 k3 HVC HDV HLC HIA HIB HDI HAX hgc hpa hva hvb
  generalize farAt n H a = F at *
  generalize idx (maskL n H) a = ia at *
  generalize idx (maskL n H) b = ib at *
  generalize farM H a b = D at *
  generalize diamV n H = Z at *
  obtain ⟨bf, of, rfl, -⟩ := HR3.out ia hiaL
  have HF : Hid (∀ i : Nat, i < (maskL n H).length → w10.cell? ⟨bf, of + i, none⟩ = some (.int .i64 (F i))) := fun i hi => by
    obtain ⟨b, off, h1, h2⟩ := HR3.out i hi
    cases h1
    exact keepc B3t h2
  clear HR3
  have ca0 := HF.out ia hiaL
  have cb0 := HF.out ib hibL
  rw [HFA.out] at ca0
  rw [HFB.out] at cb0
  have tn : (((maskL n H).length : Int) != ((maskL n H).length : Int)) = false := by simp
  have tD : (D != D) = false := by simp
  have ia0 : (0 : Int) ≤ (ia : Int) := by omega
  have ia1 : (ia : Int) < ((maskL n H).length : Int) := by omega
  have ib0 : (0 : Int) ≤ (ib : Int) := by omega
  have ib1 : (ib : Int) < ((maskL n H).length : Int) := by omega
  go_wp2_with fail
  go_loopw [21] (fun i wr => ∃ k : Nat, k ≤ (maskL n H).length ∧ i = .int .i64 k ∧ Below w10.heap.size w10 wr) (fun i _ => (maskL n H).length - (intOf i).toNat)
  case atStart => exact ⟨0, by omega, rfl, Below.refl _ _⟩
  case round =>
    obtain ⟨k, hk, rfl, hbr⟩ := hrel
    by_cases hlt : k < (maskL n H).length
    · have c0 := keepc hbr (HF.out k hlt)
      obtain ⟨y0, yZ, y1, yia⟩ := HBD.out k hlt
      have hk0 : (0 : Int) ≤ (k : Int) := by omega
      have hk1 : (k : Int) < ((maskL n H).length : Int) := by omega
      clear ca0 cb0 HB B2 B3t BT HF
      generalize F k = y at *
      have g1 : ¬ y < 0 := by omega
      have g2 : ¬ y > Z := by omega
      rcases hy : (y == 0) with _ | _
      · go_wp2_with fail
        go_roundw
        case rel => exact ⟨k + 1, by omega, by go_num, hbr⟩
        case measure => simp [intOf]; omega
      · obtain rfl := yia (by simpa using hy)
        have hie : ((k : Int) != (k : Int)) = false := by simp
        go_wp2_with fail
        go_roundw
        case rel => exact ⟨k + 1, by omega, by go_num, hbr⟩
        case measure => simp [intOf]; omega
    · obtain rfl : k = (maskL n H).length := by omega
      go_wp2_with (at_make; refine make_bool rfl _ _ _ _ rfl Try.underlying57 infoB w10.heap.size _ _ _ _ _ (maskL n H).length rfl rfl rfl rfl (by omega) hbr.size ?_; intro w11 hbools hbel hsz)
      have B11 := hbel w10 hbr
      have hg10 := hbr.size
      obtain ⟨g, Hg⟩ : ∃ g, Hid (wr.heap.size = g) := ⟨_, rfl⟩
      rw [Hg.out] at hbools hsz hg10 ⊢
      clear hbel ca0 cb0
      have hr0 : Hid (∀ (i' : Nat), i' < 0 → ∀ (hk : i' < (arcsL (maskL n H) H).length) (x y : Nat), (arcsL (maskL n H) H)[i'].1 = (x : Int) → (arcsL (maskL n H) H)[i'].2.2 = (y : Int) → F y = F x + 1 → (fun _ : Nat => false) y = true) := fun i' h => by omega
      go_loopw [23] (fun i wr => ∃ (k : Nat) (f : Nat → Bool), k ≤ (arcsL (maskL n H) H).length ∧ i = .int .i64 k ∧ BoolsAt wr g (maskL n H).length f ∧ Hid (∀ (i' : Nat), i' < k → ∀ (hk : i' < (arcsL (maskL n H) H).length) (x y : Nat), (arcsL (maskL n H) H)[i'].1 = (x : Int) → (arcsL (maskL n H) H)[i'].2.2 = (y : Int) → F y = F x + 1 → f y = true) ∧ Below w10.heap.size w10 wr) (fun i _ => (arcsL (maskL n H) H).length - (intOf i).toNat)
      case atStart => exact ⟨0, fun _ => false, by omega, rfl, hbools, hr0, B11⟩
      case round =>
        clear hr0 hbools
        obtain ⟨k, f, hk, rfl, hbo, hre, hbr2⟩ := hrel
        by_cases hlt : k < (arcsL (maskL n H) H).length
        · obtain ⟨b7, o7, rfl, hcs⟩ := HR7.out k hlt
          have HCS := Lib.hid hcs
          clear hcs
          obtain ⟨i0, j0, e0, hi0, e2, hj0, -, -, -⟩ := HARC.out k hlt
          have hstep := HFARC.out k hlt i0 j0 e0 e2
          obtain ⟨ar, Ha⟩ : ∃ a : Int × Int × Int, Hid ((arcsL (maskL n H) H)[k] = a) := ⟨(arcsL (maskL n H) H)[k], Lib.hid rfl⟩
          obtain ⟨p0, p1, p2⟩ := ar
          rw [Ha.out] at e0 e2 HCS
          dsimp only at e0 e2
          subst e0 e2
          have q0 : wr.cell? ⟨b7, o7 + k * 3, none⟩ = some (.int .i64 (i0 : Int)) := keepc (B7t.tr hbr2) (HCS.out 0 _ rfl)
          have q2 : wr.cell? ⟨b7, o7 + k * 3 + 2, none⟩ = some (.int .i64 (j0 : Int)) := keepc (B7t.tr hbr2) (HCS.out 2 _ rfl)
          have ci := keepc hbr2 (HF.out i0 hi0)
          have cj := keepc hbr2 (HF.out j0 hj0)
          have bi := HBD.out i0 hi0
          have bj := HBD.out j0 hj0
          obtain ⟨fi, Hfi⟩ : ∃ x, Hid (F i0 = x) := ⟨_, rfl⟩
          obtain ⟨fj, Hfj⟩ : ∃ x, Hid (F j0 = x) := ⟨_, rfl⟩
          rw [Hfi.out] at ci bi hstep
          rw [Hfj.out] at cj bj hstep
          have hi1 : (0 : Int) ≤ (i0 : Int) := Int.natCast_nonneg _
          have hi2 : (i0 : Int) < ((maskL n H).length : Int) := by omega
          have hj1 : (0 : Int) ≤ (j0 : Int) := Int.natCast_nonneg _
          have hj2 : (j0 : Int) < ((maskL n H).length : Int) := by omega
          have hk1 : (k : Int) < ((arcsL (maskL n H) H).length : Int) := by omega
          have hk0 : (0 : Int) ≤ (k : Int) := Int.natCast_nonneg _
          have hgt : ¬ fj > fi + 1 := by omega
          have rc := (hbo j0 hj0).1
          have rf := (hbo j0 hj0).2
          clear HB B2 B3t BT
          go_wp2_with fail
          go_quiet (fail)
          go_wp2_with fail
          go_quiet (fail)
          rcases hje : (fj == fi + 1) with _ | _
          · have hre' : Hid (∀ (i' : Nat), i' < k + 1 → ∀ (hk : i' < (arcsL (maskL n H) H).length) (x y : Nat), (arcsL (maskL n H) H)[i'].1 = (x : Int) → (arcsL (maskL n H) H)[i'].2.2 = (y : Int) → F y = F x + 1 → f y = true) := fun i' hi' hk' x y hx hy hxy => by
              rcases Nat.lt_or_ge i' k with h1 | h1
              · exact hre.out i' h1 hk' x y hx hy hxy
              · obtain rfl : i' = k := by omega
                rw [Ha.out] at hx hy
                obtain rfl : x = i0 := by have h3 : ((i0 : Nat) : Int) = (x : Int) := hx; omega
                obtain rfl : y = j0 := by have h3 : ((j0 : Nat) : Int) = (y : Int) := hy; omega
                rw [Hfi.out, Hfj.out] at hxy
                rw [hxy] at hje
                simp at hje
            go_wp2_with fail
            go_roundw
            case rel => exact ⟨k + 1, f, by omega, by go_num, hbo.below ((Below.refl _ _).drN _), hre', hbr2.drN _⟩
            case measure => simp [intOf]; omega
          · have hre' : Hid (∀ (i' : Nat), i' < k + 1 → ∀ (hk : i' < (arcsL (maskL n H) H).length) (x y : Nat), (arcsL (maskL n H) H)[i'].1 = (x : Int) → (arcsL (maskL n H) H)[i'].2.2 = (y : Int) → F y = F x + 1 → (fun v => if v = j0 then true else f v) y = true) := fun i' hi' hk' x y hx hy hxy => by
              show (if y = j0 then true else f y) = true
              split
              · rfl
              · rename_i hne
                rcases Nat.lt_or_ge i' k with h1 | h1
                · exact hre.out i' h1 hk' x y hx hy hxy
                · obtain rfl : i' = k := by omega
                  rw [Ha.out] at hx hy
                  exact absurd (by have h3 : ((j0 : Nat) : Int) = (y : Int) := hy; omega) hne
            go_wp2_with fail
            go_roundw
            case rel => exact ⟨k + 1, fun v => if v = j0 then true else f v, by omega, by go_num, (hbo.below ((Below.refl _ _).drN _)).store j0 hj0 true, hre', (hbr2.drN _).setCell hg10 _⟩
            case measure => simp [intOf]; omega
        · obtain rfl : k = (arcsL (maskL n H) H).length := by omega
          clear HB B2 B3t HARC HFARC HR7
          have HALL : Hid (∀ j : Nat, j < (maskL n H).length → F j > 0 → f j = true) := fun j hj h0 => by
            obtain ⟨k', hk', i, h1, h2, h3⟩ := HPRED.out j hj h0
            exact hre.out k' hk' hk' i j h1 h2 h3
          clear hre HPRED
          have hbr3 : Below wr.heap.size wr wr := Below.refl _ _
          go_wp2_with fail
          obtain ⟨wo, rfl⟩ : ∃ wo : World, wo = wr := ⟨_, rfl⟩
          go_loopw [24] (fun i wr => ∃ k : Nat, k ≤ (maskL n H).length ∧ i = .int .i64 k ∧ Below wo.heap.size wo wr) (fun i _ => (maskL n H).length - (intOf i).toNat)
          case atStart => exact ⟨0, by omega, rfl, hbr3⟩
          case round =>
            obtain ⟨k, hk, rfl, hbr4⟩ := hrel
            by_cases hlt : k < (maskL n H).length
            · have c0 := keepc (hbr2.tr hbr4) (HF.out k hlt)
              have r0 := keepc hbr4 (hbo k hlt).1
              obtain ⟨y0, -, y1, -⟩ := HBD.out k hlt
              have hf0 := HALL.out k hlt
              have hk0 : (0 : Int) ≤ (k : Int) := by omega
              have hk1 : (k : Int) < ((maskL n H).length : Int) := by omega
              clear HF HALL HBD hbo
              generalize F k = y at *
              by_cases hy : y > 0
              · rw [hf0 hy] at r0
                go_wp2_with fail
                go_roundw
                case rel => exact ⟨k + 1, by omega, by go_num, hbr4⟩
                case measure => simp [intOf]; omega
              · go_wp2_with fail
                go_roundw
                case rel => exact ⟨k + 1, by omega, by go_num, hbr4⟩
                case measure => simp [intOf]; omega
            · obtain rfl : k = (maskL n H).length := by omega
              go_wp2
              go_ret
              exact ⟨rfl, (BT.tr hbr2).tr hbr4⟩
theorem own : ownKnob Try.prog.godebug = none := by kernel_rfl
theorem laidOut : laidOutB Try.prog = true := by kernel_rfl
set_option maxRecDepth 100000 in
theorem lifted (os : Os) (started : os.Started) (H : Type) (enc : TypeId × Value → H) :
    ReturnsInHanded {} Try.checked os 11 .any (Rows.fnFarSpec.pre6 enc Try.prog Try.f11 Rows.fnFarRow.domain false) (Rows.fnFarSpec.post enc Try.prog Try.f11 false true false false) := by
  refine returnsInHanded_of_change (C := Try.checked) own started (by kernel_rfl) Try.func11
    (ChangeSpec.witness6 (enc := enc) (C := Try.checked) false ⟨#[], #[.slice none 0 0], []⟩ 8 (by kernel_rfl) (by kernel_rfl) (by kernel_rfl) (by kernel_rfl)) ?_
  intro W base args ds gs before hval0 hW hcnd _
  have hval : ∀ (j : Nat) t v, Try.f11.params[j]? = some t → args[j]? = some v → Value.okWide Try.prog W .any base t v := hval0
  have hW' := hW
  obtain ⟨p, q, hA0, hV, rfl, hfz, hnd⟩ := hW
  have hA : DataW.TrodAll enc Try.prog W 0 (fun _ => true) true Try.f11.params.toList args.toList ds p := hA0
  rw [Try.params11] at hA hval
  obtain ⟨v0, vs0, d0, ds0, p0, q0, hargs, rfl, rfl, h0, r0⟩ := trodAll_cons hA
  obtain ⟨rfl, rfl, rfl⟩ := trodAll_nil r0
  obtain rfl : args = #[v0] := by cases args; simp_all
  obtain ⟨rfl, rfl⟩ := trodVars_none hV
  have k0 := h0
  have lt0 : ∀ x ∈ p0, x.block < W.heap.size := by obtain ⟨m, hm⟩ := k0; exact DataW.trod_lt m _ _ _ hm
  have a0 := open_bytes (hval 0 25 v0 rfl rfl) h0
  clear hA0 hval0
  refine (walk v0 W a0).mono fun e W' ⟨he, bel⟩ => ?_
  subst he
  exact ⟨_, rfl, _, _, _, [], _, [], hW', trodAll_mk1 (shut_bool Try.underlying4 _), (trodAll_cons_mk (Below.trod laidOut (by kernel_rfl) (of_decide_eq_true (by kernel_rfl)) k0 bel lt0) trodAll_mk0), rfl, bel.frame _, fun h => by cases h⟩
theorem over : Rows.fnFarRow.holds Try.pinned (OpenSpec.ofChange Rows.fnFarSpec) :=
  OpenClaim.holds_of_wide 11 Try.f11 rfl rfl rfl rfl rfl rfl rfl ⟨rfl, rfl, rfl, rfl, rfl⟩ rfl rfl rfl rfl rfl (by kernel_rfl) Try.func11 (by kernel_rfl)
    (of_decide_eq_true (by kernel_rfl)) (by unfold Func.isWrapper; first | (rw [if_pos (by decide +kernel)]; kernel_rfl) | (rw [if_neg (by decide +kernel)]; exact ⟨rfl, rfl⟩))
    (fun os started H enc _ => lifted os started H enc)
theorem proved : Rows.FnFarSaid := over
end fnFar
end Go.Proofs.Ytggffkklfdpmkaa
