/- The law FnBestBridges returns true for all slices of bytes. No condition. -/
import Derived.Test.YtpcaaohdlcoplaaPlainBB
import Derived.Test.YtpcaaohdlcoplaaDrS
import Derived.Test.YtpcaaohdlcoplaaBBX
import Derived.Test.YtpcaaohdlcoplaaBest2
import Derived.Deep.RegionHeld3
namespace Go.Proofs.Ytpcaaohdlcoplaa
open Go.ChangeShapes Go.WideShapes Go.ChangeAt Go.RowKit
set_option linter.unusedVariables false
set_option linter.unusedSimpArgs false
namespace fnBestBridges
theorem valid_mk {n h m : Int} (hh : 1 ≤ h ∧ h ≤ 10) (hm : m ∈ maskL n h) : validB h m = true := by
  have := (mem_maskL.1 hm).1
  exact validB_iff.2 ⟨hh, by omega⟩
theorem link_mk {n h m m2 : Int} (hh : 1 ≤ h ∧ h ≤ 10) (hm : m ∈ maskL n h) (hm2 : m2 ∈ maskL n h) : linkC h m h m2 = 0 := by
  unfold linkC linkB
  rw [valid_mk hh hm, valid_mk hh hm2, (mem_maskL.1 hm).2, (mem_maskL.1 hm2).2]
  simp
theorem dist_at {n h m m2 : Int} (hm : m ∈ maskL n h) (hm2 : m2 ∈ maskL n h) : (distL h m).getD (idx (maskL n h) m2) 0 = farM h m m2 := by
  have h1 := (mem_maskL.1 hm).2
  have h2 : m2 ∈ maskL (popI m) h := by rw [h1]; exact hm2
  have h3 := idx_lt h2
  have h4 := idx_get h2
  unfold distL
  rw [← h1]
  simp [List.getD, h3, h4]
set_option maxHeartbeats 8000000 in
set_option maxRecDepth 100000 in
theorem walk (v0 : Value) (w : World) (a0 : Arg_bytes w v0) : Calls Try.prog 3 #[v0] w fun e w' => e = .returned (.bool true) ∧ Below w.heap.size w w' := by
  obtain ⟨bs, hb0⟩ := a0
  have HB0 := Lib.hid hb0
  obtain ⟨aa, ca, rfl, hla, -, -⟩ := hb0
  cases hlong : (decide ((bs.length : Int) > 3000) || decide (((0 : Nat) : Int) > 3000))
  rotate_left
  · go_enter Try.func3, Try.ntmps3
    go_wp2_with fail
    refine (c_laws_a2Long _ _ _ _ _ _ _ (by omega) (by omega)).mono ?_; rintro e w1 ⟨rfl, rfl⟩; rw [hlong]
    go_wp2
    go_ret
    exact ⟨rfl, by (repeat (first | (with_reducible assumption) | (with_reducible exact Below.refl _ _) | (with_reducible refine Below.setCell ?_ (by first | (simp; done) | (simp; omega)) _) | (with_reducible refine Below.al ?_ _) | (with_reducible refine Below.dr ?_) | (with_reducible refine Below.drN ?_ _) | (with_reducible refine Below.tr ?_ (by with_reducible assumption))))⟩
  go_enter Try.func3, Try.ntmps3
  go_wp2_with fail
  refine (c_laws_a2Long _ _ _ _ _ _ _ (by omega) (by omega)).mono ?_; rintro e w1 ⟨rfl, rfl⟩; rw [hlong]
  go_wp2_with fail
  refine (c_spec_A2Two bs _ _ HB0.out).mono ?_; rintro e w1 ⟨v1, v2, a, b, h, rfl, r1, r2, hbr, B1⟩
  obtain ⟨⟨hva, hvb⟩, hh, ⟨hpa, hpb⟩, he⟩ := brC_ok hbr
  have hla1 := (validP_iff.1 hva).1.2
  have hlb1 := (validP_iff.1 hvb).1.2
  obtain ⟨i0, k0, hi0, hk0, hbt, hall⟩ := best_ok (h := h) hva hvb
  have HBI : Hid (bestI a b h = (i0 : Int)) := by unfold Hid bestI; rw [if_pos hbr, hbt]
  have HBK : Hid (bestK a b h = (k0 : Int)) := by unfold Hid bestK; rw [if_pos hbr, hbt]
  have HALL := Lib.hid hall
  have HMA := Lib.hid (fun i : Nat => stM_mem hva (i : Int) hh hpa)
  have HMB : Hid (∀ i : Nat, stM b (i : Int) h ∈ maskL (propsP a) h) := fun i => by rw [he]; exact stM_mem hvb (i : Int) hh hpb
  have HSA := Lib.hid (fun k hk => stsL_at (p := a) (h := h) (k := k) hk)
  have HSB := Lib.hid (fun k hk => stsL_at (p := b) (h := h) (k := k) hk)
  have HLA := Lib.hid (stsL_len a h)
  have HLB := Lib.hid (stsL_len b h)
  have hml := maskL_len (propsP a) h (by omega)
  have hbra : brC a a h = 0 := brC_mk hva hva hh (mxF_bd (by omega) hpa).2 (mxF_bd (by omega) hpa).2 rfl
  have hbrb : brC b b h = 0 := brC_mk hvb hvb hh (mxF_bd (by omega) hpb).2 (mxF_bd (by omega) hpb).2 rfl
  have HC := Lib.hid hbr
  have HCA := Lib.hid hbra
  have HCB := Lib.hid hbrb
  have HR1 := Lib.hid r1
  have HR2 := Lib.hid r2
  obtain ⟨ax, cx, rfl, -, -⟩ := r1
  obtain ⟨ay, cy, rfl, -, -⟩ := r2
  clear hall hbt hbr hva hvb hpa hpb he hbra hbrb
  go_wp2_with fail
  refine (c_impl_BestBridge a b h _ _ _ HR1.out HR2.out).mono ?_; rintro e w2 ⟨rfl, hb2⟩
  rw [HBI.out, HBK.out, HC.out]
  have hin0 : (0 : Int) ≤ (i0 : Int) := by omega
  have hin1 : (i0 : Int) < (a.length : Int) := by omega
  have hkn0 : (0 : Int) ≤ (k0 : Int) := by omega
  have hkn1 : (k0 : Int) < (b.length : Int) := by omega
  go_wp2_with fail
  refine (c_spec_StatesOf a h _ _ (HR1.out.below hb2) HCA.out).mono ?_; rintro e w3 ⟨vx, rfl, hox, hb3⟩
  go_wp2_with fail
  refine (c_spec_StatesOf b h _ _ ((HR2.out.below hb2).below hb3) HCB.out).mono ?_; rintro e w4 ⟨vy, rfl, hoy, hb4⟩
  obtain ⟨x2, capx, rfl, hlx, hcx⟩ := OwnRow.rd (rowS_len h) (hox.below hb4)
  obtain ⟨y2, capy, rfl, hly, hcy⟩ := OwnRow.rd (rowS_len h) hoy
  have HX : Hid (∀ k, k < a.length → ∃ bx ox, x2 = some ⟨bx, ox, none⟩ ∧ w4.cell? ⟨bx, ox + k * 2, none⟩ = some (.int .i64 h) ∧ w4.cell? ⟨bx, ox + k * 2 + 1, none⟩ = some (.int .i64 (stM a k h))) := fun k hk => by
    obtain ⟨bx, ox, hx, hc⟩ := hcx k (by rw [HLA.out]; exact hk)
    refine ⟨bx, ox, hx, hc 0 _ rfl, ?_⟩
    have h1 := hc 1 _ rfl
    rw [h1, ← HSA.out k hk]; simp [List.getD, HLA.out, hk]
  have HY : Hid (∀ k, k < b.length → ∃ by' oy, y2 = some ⟨by', oy, none⟩ ∧ w4.cell? ⟨by', oy + k * 2, none⟩ = some (.int .i64 h) ∧ w4.cell? ⟨by', oy + k * 2 + 1, none⟩ = some (.int .i64 (stM b k h))) := fun k hk => by
    obtain ⟨bx, ox, hx, hc⟩ := hcy k (by rw [HLB.out]; exact hk)
    refine ⟨bx, ox, hx, hc 0 _ rfl, ?_⟩
    have h1 := hc 1 _ rfl
    rw [h1, ← HSB.out k hk]; simp [List.getD, HLB.out, hk]
  rw [HLA.out] at hlx
  rw [HLB.out] at hly
  rw [show (stsL a h).length = a.length from HLA.out, show (stsL b h).length = b.length from HLB.out]
  clear hcx hcy hox hoy
  have B4 := ((B1.tr hb2).tr hb3).tr hb4
  obtain ⟨bx, ox, rfl, x0, x1⟩ := HX.out i0 hi0
  obtain ⟨bY, oy, rfl, y0, y1⟩ := HY.out k0 hk0
  have mA := HMA.out i0
  have mB := HMB.out k0
  have HDV : Hid (distV h (stM a i0 h) h (stM b k0 h) = farM h (stM a i0 h) (stM b k0 h)) := by unfold Hid distV; rw [link_mk hh mA mB]; rfl
  have HLK := Lib.hid (link_mk hh mA mB)
  obtain ⟨ma, hma⟩ : ∃ m, Hid (stM a i0 h = m) := ⟨_, Lib.hid rfl⟩
  obtain ⟨mb, hmb⟩ : ∃ m, Hid (stM b k0 h = m) := ⟨_, Lib.hid rfl⟩
  rw [hma.out] at x1 HDV HLK
  rw [hmb.out] at y1 HDV HLK
  obtain ⟨E, HE⟩ : ∃ E, Hid (farM h ma mb = E) := ⟨_, Lib.hid rfl⟩
  rw [HE.out] at HDV
  clear mA mB
  have hq1 : Below w4.heap.size w4 w4 := Below.refl _ _
  go_wp2_with fail
  go_region_held3 (fun w' => w'.cell? ⟨bx, ox + i0 * 2, none⟩ = some (.int .i64 h) ∧ w'.cell? ⟨bx, ox + i0 * 2 + 1, none⟩ = some (.int .i64 ma) ∧ w'.cell? ⟨bY, oy + k0 * 2, none⟩ = some (.int .i64 h) ∧ w'.cell? ⟨bY, oy + k0 * 2 + 1, none⟩ = some (.int .i64 mb))
    (go_keep)
    (first | ((go_at_call 11; refine (c_spec_Distance h ma h mb _).mono ?_; rintro e w5 ⟨rfl, hb5⟩; have hb5' := below_drew hb5; have q0 := keepc hb5' x0; have q1 := keepc hb5' x1; have q2 := keepc hb5' y0; have q3 := keepc hb5' y1)))
  rw [HDV.out, HLK.out]
  have B5 := B4.tr hb5'
  have HX5 : Hid (∀ k, k < a.length → w5.cell? ⟨bx, ox + k * 2, none⟩ = some (.int .i64 h) ∧ w5.cell? ⟨bx, ox + k * 2 + 1, none⟩ = some (.int .i64 (stM a k h))) := fun k hk => by
    obtain ⟨b1, o1, he1, h1, h2⟩ := HX.out k hk
    cases he1
    exact ⟨keepc hb5' h1, keepc hb5' h2⟩
  have HY5 : Hid (∀ k, k < b.length → w5.cell? ⟨bY, oy + k * 2, none⟩ = some (.int .i64 h) ∧ w5.cell? ⟨bY, oy + k * 2 + 1, none⟩ = some (.int .i64 (stM b k h))) := fun k hk => by
    obtain ⟨b1, o1, he1, h1, h2⟩ := HY.out k hk
    cases he1
    exact ⟨keepc hb5' h1, keepc hb5' h2⟩
  clear x0 x1 y0 y1 q0 q1 q2 q3
  go_wp2
  go_loopw [15] (fun i wr => ∃ p : Nat, p ≤ a.length ∧ i = .int .i64 p ∧ Below w5.heap.size w5 wr) (fun i _ => a.length - (intOf i).toNat)
  case atStart => exact ⟨0, by omega, by go_num, by first | exact Below.refl _ _ | exact (Below.refl _ _).drN _⟩
  case round =>
    obtain ⟨p, hp, rfl, BR⟩ := hrel
    by_cases hlt : p < a.length
    · obtain ⟨x0, x1⟩ := HX5.out p hlt
      have x0 := keepc BR x0
      have x1 := keepc BR x1
      have mP := HMA.out p
      have hvP := valid_mk hh mP
      have HDA := Lib.hid (fun m2 hm2 => dist_at mP (m2 := m2) hm2)
      have HDX : Hid (distX h (stM a p h) = distL h (stM a p h)) := by unfold Hid distX; rw [hvP]; rfl
      have HVC : Hid (validC h (stM a p h) = 0) := by unfold Hid validC; rw [hvP]; rfl
      have HDL : Hid ((distL h (stM a p h)).length = (maskL (propsP a) h).length) := by unfold Hid; rw [distL_len, (mem_maskL.1 mP).2]
      have HAL : Hid (∀ q : Nat, q < b.length → E ≤ farM h (stM a p h) (stM b q h) ∧ (farM h (stM a p h) (stM b q h) = E → ¬ (p < i0 ∨ p = i0 ∧ q < k0))) := fun q hq => by
        have := HALL.out p q hlt hq
        rw [hma.out, hmb.out, HE.out] at this
        exact this
      obtain ⟨mp, hmp⟩ : ∃ m, Hid (stM a p h = m) := ⟨_, Lib.hid rfl⟩
      rw [hmp.out] at x1 HDA HDX HVC HDL HAL
      have hpn0 : (0 : Int) ≤ (p : Int) := by omega
      have hpn1 : (p : Int) < (a.length : Int) := by omega
      clear mP hvP
      go_wp2_with fail
      refine (c_spec_DistancesFrom h mp _).mono ?_; rintro e w6 ⟨vf, rfl, hof, hb6⟩
      rw [HVC.out]
      rw [HDX.out] at hof
      obtain ⟨af, cf, rfl, hlf, hcf⟩ := hof.rd
      rw [HDL.out] at hlf
      rw [show (distL h mp).length = (maskL (propsP a) h).length from HDL.out]
      have HF : Hid (∀ j, j < (maskL (propsP a) h).length → ∃ b9 o9, af = some ⟨b9, o9, none⟩ ∧ w6.cell? ⟨b9, o9 + j, none⟩ = some (.int .i64 ((distL h mp).getD j 0))) := fun j hj => hcf j (by rw [HDL.out]; exact hj)
      clear hcf hof
      have B6 := BR.tr hb6
      obtain ⟨ML, HML⟩ : ∃ ML, Hid ((maskL (propsP a) h).length = ML) := ⟨_, Lib.hid rfl⟩
      rw [HML.out] at hlf HF
      rw [show (maskL (propsP a) h).length = ML from HML.out]
      go_wp2
      go_loopw [18] (fun i wr => ∃ q : Nat, q ≤ b.length ∧ i = .int .i64 q ∧ Below w6.heap.size w6 wr) (fun i _ => b.length - (intOf i).toNat)
      case atStart => exact ⟨0, by omega, by go_num, Below.refl _ _⟩
      case round =>
        obtain ⟨q, hq, rfl, BQ⟩ := hrel
        by_cases hlq : q < b.length
        · obtain ⟨y0, y1⟩ := HY5.out q hlq
          have y0 := keepc BQ (keepc B6 y0)
          have y1 := keepc BQ (keepc B6 y1)
          have mQ := HMB.out q
          have hvQ := valid_mk hh mQ
          have hix := idx_lt mQ
          have hda := HDA.out _ mQ
          obtain ⟨hle, hnot⟩ := HAL.out q hlq
          have HSX : Hid (stateIdx h (stM b q h) = ((idx (maskL (propsP a) h) (stM b q h) : Nat) : Int)) := by unfold Hid stateIdx; rw [hvQ, (mem_maskL.1 mQ).2]; rfl
          obtain ⟨ix, hixe⟩ : ∃ ix, Hid (idx (maskL (propsP a) h) (stM b q h) = ix) := ⟨_, Lib.hid rfl⟩
          rw [hixe.out] at hix hda HSX
          rw [HML.out] at hix
          obtain ⟨mq, hmq⟩ : ∃ m, Hid (stM b q h = m) := ⟨_, Lib.hid rfl⟩
          rw [hmq.out] at y1 hvQ hle hnot HSX hda
          obtain ⟨D, hD⟩ : ∃ D, Hid (farM h mp mq = D) := ⟨_, Lib.hid rfl⟩
          rw [hD.out] at hle hnot hda
          obtain ⟨b9, o9, rfl, f0⟩ := HF.out ix hix
          rw [hda] at f0
          have f0 := keepc BQ f0
          have hqn0 : (0 : Int) ≤ (q : Int) := by omega
          have hqn1 : (q : Int) < (b.length : Int) := by omega
          have hxn0 : (0 : Int) ≤ (ix : Int) := by omega
          have hxn1 : (ix : Int) < (ML : Int) := by omega
          clear mQ hda
          go_wp2_with fail
          refine (c_spec_StateIndex h mq _ hvQ).mono ?_; rintro e w7 ⟨rfl, hb7⟩
          rw [HSX.out]
          have f0 := keepc hb7 f0
          have t1 : decide (D < E) = false := by simp; omega
          by_cases hDE : D = E
          · have t2 : (D == E) = true := by simp [hDE]
            have hn := hnot hDE
            have t3 : decide ((p : Int) < (i0 : Int)) = false := by simp; omega
            by_cases hpi : p = i0
            · have t5 : decide ((q : Int) < (k0 : Int)) = false := by simp; omega
              subst hpi
              have t4 : ((p : Int) == (p : Int)) = true := by simp
              have hpp : ¬ ((p : Int) < (p : Int)) := by omega
              have hqk : ¬ ((q : Int) < (k0 : Int)) := by omega
              go_wp2
              all_goals first
                | (exfalso; omega)
                | (go_roundw; (case rel => exact ⟨q + 1, by omega, by go_num, BQ.tr hb7⟩); (case measure => simp [intOf]; omega))
                | trace_state
            · have t4 : ((p : Int) == (i0 : Int)) = false := beq_eq_false_iff_ne.2 (by omega)
              go_wp2
              go_roundw
              case rel => exact ⟨q + 1, by omega, by go_num, BQ.tr hb7⟩
              case measure => simp [intOf]; omega
          · have t2 : (D == E) = false := beq_eq_false_iff_ne.2 hDE
            go_wp2
            go_roundw
            case rel => exact ⟨q + 1, by omega, by go_num, BQ.tr hb7⟩
            case measure => simp [intOf]; omega
        · obtain rfl : q = b.length := by omega
          go_wp2
          go_roundw
          case rel => exact ⟨p + 1, by omega, by go_num, B6.tr BQ⟩
          case measure => simp [intOf]; omega
    · obtain rfl : p = a.length := by omega
      go_wp2
      go_ret
      exact ⟨rfl, B5.tr BR⟩
theorem own : ownKnob Try.prog.godebug = none := by kernel_rfl
theorem laidOut : laidOutB Try.prog = true := by kernel_rfl
set_option maxRecDepth 100000 in
theorem lifted (os : Os) (started : os.Started) (H : Type) (enc : TypeId × Value → H) :
    ReturnsInHanded {} Try.checked os 3 .any (Rows.fnBestBridgesSpec.pre6 enc Try.prog Try.f3 Rows.fnBestBridgesRow.domain false) (Rows.fnBestBridgesSpec.post enc Try.prog Try.f3 false true false false) := by
  refine returnsInHanded_of_change (C := Try.checked) own started (by kernel_rfl) Try.func3
    (ChangeSpec.witness6 (enc := enc) (C := Try.checked) false ⟨#[], #[.slice none 0 0], []⟩ 8 (by kernel_rfl) (by kernel_rfl) (by kernel_rfl) (by kernel_rfl)) ?_
  intro W base args ds gs before hval0 hW hcnd _
  have hval : ∀ (j : Nat) t v, Try.f3.params[j]? = some t → args[j]? = some v → Value.okWide Try.prog W .any base t v := hval0
  have hW' := hW
  obtain ⟨p, q, hA0, hV, rfl, hfz, hnd⟩ := hW
  have hA : DataW.TrodAll enc Try.prog W 0 (fun _ => true) true Try.f3.params.toList args.toList ds p := hA0
  rw [Try.params3] at hA hval
  obtain ⟨v0, vs0, d0, ds0, p0, q0, hargs, rfl, rfl, h0, r0⟩ := trodAll_cons hA
  obtain ⟨rfl, rfl, rfl⟩ := trodAll_nil r0
  obtain rfl : args = #[v0] := by cases args; simp_all
  obtain ⟨rfl, rfl⟩ := trodVars_none hV
  have k0 := h0
  have lt0 : ∀ x ∈ p0, x.block < W.heap.size := by obtain ⟨m, hm⟩ := k0; exact DataW.trod_lt m _ _ _ hm
  have a0 := open_bytes (hval 0 22 v0 rfl rfl) h0
  clear hA0 hval0
  refine (walk v0 W a0).mono fun e W' ⟨he, bel⟩ => ?_
  subst he
  exact ⟨_, rfl, _, _, _, [], _, [], hW', trodAll_mk1 (shut_bool Try.underlying4 _), (trodAll_cons_mk (Below.trod laidOut (by kernel_rfl) (of_decide_eq_true (by kernel_rfl)) k0 bel lt0) trodAll_mk0), rfl, bel.frame _, fun h => by cases h⟩
theorem over : Rows.fnBestBridgesRow.holds Try.pinned (OpenSpec.ofChange Rows.fnBestBridgesSpec) :=
  OpenClaim.holds_of_wide 3 Try.f3 rfl rfl rfl rfl rfl rfl rfl ⟨rfl, rfl, rfl, rfl, rfl⟩ rfl rfl rfl rfl rfl (by kernel_rfl) Try.func3 (by kernel_rfl)
    (of_decide_eq_true (by kernel_rfl)) (by unfold Func.isWrapper; first | (rw [if_pos (by decide +kernel)]; kernel_rfl) | (rw [if_neg (by decide +kernel)]; exact ⟨rfl, rfl⟩))
    (fun os started H enc _ => lifted os started H enc)
theorem proved : Rows.FnBestBridgesSaid := over
end fnBestBridges
end Go.Proofs.Ytpcaaohdlcoplaa
