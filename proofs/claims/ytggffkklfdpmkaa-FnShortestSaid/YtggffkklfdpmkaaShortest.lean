/- FnShortest: the shortest throws are the least ones, and there are as many as counted. Proved for every argument that the statement allows. -/
import Derived.Test.YtggffkklfdpmkaaPlainSh
import Derived.Test.YtggffkklfdpmkaaFarX
import Derived.Test.YtggffkklfdpmkaaDraw
import Derived.Test.YtggffkklfdpmkaaCmpS
namespace Go.Proofs.Ytggffkklfdpmkaa
open Go.ChangeShapes Go.WideShapes Go.ChangeAt Go.RowKit
set_option linter.unusedVariables false
namespace fnShortest
set_option maxHeartbeats 8000000 in
set_option maxRecDepth 100000 in
theorem walk (v0 : Value) (w : World) (a0 : Arg_bytes w v0) : Calls Try.prog 13 #[v0] w fun e w' => e = .returned (.bool true) ∧ Below w.heap.size w w' := by
  obtain ⟨bs, hb⟩ := a0
  have hb' := hb
  obtain ⟨aa, ca, rfl, hla, -, -⟩ := hb'
  have HB := Lib.hid hb
  clear hb
  go_enter Try.func13, Try.ntmps13
  go_wp2_with fail
  refine (c_laws_a2Long aa none bs.length ca 0 0 _ hla (by omega)).mono ?_; rintro e w1 ⟨rfl, rfl⟩
  by_cases hlong : ((bs.length : Int) > 3000 ∨ ((0 : Nat) : Int) > 3000)
  · have hlt : (decide ((bs.length : Int) > 3000) || decide (((0 : Nat) : Int) > 3000)) = true := by simpa using hlong
    rw [hlt]
    go_wp2
    go_ret
    exact ⟨rfl, Below.refl _ _⟩
  have hlt : (decide ((bs.length : Int) > 3000) || decide (((0 : Nat) : Int) > 3000)) = false := by simpa using hlong
  rw [hlt]
  clear hlt hlong
  go_wp2_with fail
  refine (c_spec_A2Pair bs _ _ HB.out).mono ?_; rintro e w2 ⟨H, a, b, n, rfl, hH7, hn, ha, hbm, B2⟩
  have hh : 1 ≤ H ∧ H ≤ 10 := by omega
  have HLC := Lib.hid (link_ok hh ha hbm)
  have HSX := Lib.hid (shortX_ok hh ha hbm)
  have hcnt := count_ok hH7 hn ha hbm
  have hml := maskL_len n H hh
  have HMS := Lib.hid (fun (s : Int) (hs : s ∈ maskL n H) => (⟨valid_mem hh hs, distV_ok hh hs hbm, link_ok hh hs hbm, (valid_bd (valid_mem hh hs)).2, farM_bd hh hs hbm⟩ : validB H s = true ∧ distV H s H b = farM H s b ∧ linkC H s H b = 0 ∧ (0 ≤ s ∧ s < 1024) ∧ (0 ≤ farM H s b ∧ farM H s b < (maskL n H).length)))
  clear hH7 hn
  go_wp2_with fail
  obtain ⟨W0, hW0, k0, k1, k2, k3, B0⟩ := twoStates w2 36 H a H b
  rw [← hW0]
  clear hW0
  refine (c_impl_ShortestThrows H a H b _).mono ?_; rintro e w3 ⟨v3, rfl, ho3, hb3⟩
  rw [HLC.out]
  rw [HSX.out] at ho3
  obtain ⟨m3, cap3, rfl, hl3, hr3⟩ := ho3.rd
  have HR3 := Lib.hid hr3
  clear hr3 ho3
  have k0 := keepc hb3 k0
  have k1 := keepc hb3 k1
  have k2 := keepc hb3 k2
  have k3 := keepc hb3 k3
  go_wp2_with fail
  refine (c_impl_CountShortest H a H b _).mono ?_; rintro e w4 ⟨rfl, hb4⟩
  rw [HLC.out]
  generalize countC H a H b = cn at *
  have hcn : ¬ cn < 1 := by omega
  have k0 := keepc hb4 k0
  have k1 := keepc hb4 k1
  have k2 := keepc hb4 k2
  have k3 := keepc hb4 k3
  have hXl : (shortL H a b).length < 1024 := by
    have h1 := (HMS.out a ha).2.2.2.2
    rw [shortL_len]
    omega
  have HR4 : Hid (∀ k, k < (shortL H a b).length → ∃ b' off, m3 = some ⟨b', off, none⟩ ∧ w4.cell? ⟨b', off + k, none⟩ = some (.int .i64 ((shortL H a b).getD k 0))) := fun k hk => by
    obtain ⟨b', off, h1, h2⟩ := HR3.out k hk
    exact ⟨b', off, h1, keepc hb4 h2⟩
  clear HR3
  have BT : Below w.heap.size w w4 := ((B2.tr B0).tr hb3).tr hb4
  go_wp2_with fail
  have n0 : (w4.alloc (Obj.cells #[Value.int IntKind.i64 H, Value.int IntKind.i64 a] 36)).cell? ⟨w4.heap.size, 0, none⟩ = some (.int .i64 H) := World.cell?_alloc_at _ _ _ _ rfl
  have n1 : (w4.alloc (Obj.cells #[Value.int IntKind.i64 H, Value.int IntKind.i64 a] 36)).cell? ⟨w4.heap.size, 1, none⟩ = some (.int .i64 a) := World.cell?_alloc_at _ _ _ _ rfl
  have f0 : (w4.alloc (Obj.cells #[Value.int IntKind.i64 H, Value.int IntKind.i64 a] 36)).frozen? ⟨w4.heap.size, 0, none⟩ = false := by go_simp
  have f1 : (w4.alloc (Obj.cells #[Value.int IntKind.i64 H, Value.int IntKind.i64 a] 36)).frozen? ⟨w4.heap.size, 1, none⟩ = false := by go_simp
  have B5 : Below w4.heap.size w4 (w4.alloc (Obj.cells #[Value.int IntKind.i64 H, Value.int IntKind.i64 a] 36)) := (Below.refl _ _).al _
  generalize (w4.alloc (Obj.cells #[Value.int IntKind.i64 H, Value.int IntKind.i64 a] 36)) = w5 at *
  obtain ⟨nb, Hnb⟩ : ∃ nb, Hid (w4.heap.size = nb) := ⟨_, rfl⟩
  have hdrop : Hid ((shortL H a b).drop 0 = shortL H a b) := List.drop_zero
  rw [Hnb.out] at n0 n1 f0 f1 ⊢
  go_loopw [10] (fun i wr => ∃ (k : Nat) (s : Int), k ≤ (shortL H a b).length ∧ i = .int .i64 k ∧ s ∈ maskL n H ∧ Hid ((shortL H a b).drop k = shortL H s b) ∧ Below w4.heap.size w4 wr ∧ wr.cell? ⟨nb, 0, none⟩ = some (.int .i64 H) ∧ wr.cell? ⟨nb, 1, none⟩ = some (.int .i64 s) ∧ wr.frozen? ⟨nb, 0, none⟩ = false ∧ wr.frozen? ⟨nb, 1, none⟩ = false) (fun i _ => (shortL H a b).length - (intOf i).toNat)
  case atStart => exact ⟨0, a, by omega, rfl, ha, hdrop, B5, n0, n1, f0, f1⟩
  case round =>
    clear n0 n1 f0 f1 B5 hdrop HB B2 B0
    obtain ⟨k, s, hk, rfl, hs, hdr, hbr, n0, n1, f0, f1⟩ := hrel
    have k2' := keepc hbr k2
    have k3' := keepc hbr k3
    by_cases hlt : k < (shortL H a b).length
    · obtain ⟨hvs, hds, hls, hsb, hfb⟩ := HMS.out s hs
      have hleft := short_left hh hs hbm hdr.out (by omega)
      obtain ⟨hne, hget, hcan, hpb, hnm, hdr'⟩ := short_at hh hs hbm hdr.out hlt
      have HLS := Lib.hid hls
      have HDS : Hid (distV H s H b = ((shortL H a b).length : Int) - (k : Int)) := hds.trans hleft
      obtain ⟨b3, o3, rfl, hc3⟩ := HR4.out k hlt
      rw [hget] at hc3
      have HLEAST := Lib.hid (fun (t : Int) h1 h2 h3 => pick_least hh hs hbm hne (t := t) h1 h2 h3)
      have hthr := Lib.hid (fun (t : Int) (hc : canB H s t = true) => next_mem hh hs hc)
      have hk0 : (0 : Int) ≤ (k : Int) := by omega
      have hk1 : (k : Int) < ((shortL H a b).length : Int) := by omega
      have HDR := Lib.hid hdr'
      clear hdr hds hls hget hdr' hne
      generalize pickT H b s = pk at *
      go_wp2_with fail
      refine (c_spec_Distance H s H b _).mono ?_; rintro e w6 ⟨rfl, hb6⟩
      rw [HLS.out, HDS.out]
      have hs6 := hb6.size
      have m0 := keepc hb6 n0
      have m1 := keepc hb6 n1
      have g0 := frozenc hb6 n0 f0
      have g1 := frozenc hb6 n1 f1
      have l2 := keepc hb6 k2'
      have l3 := keepc hb6 k3'
      have c3 := keepc (hbr.tr hb6) hc3
      have B6 := hbr.tr hb6
      have td : ((((shortL H a b).length : Int) - (k : Int)) != (((shortL H a b).length : Int) - (k : Int))) = false := by simp
      clear n0 n1 f0 f1 k2' k3' hc3
      go_wp2_with fail
      obtain ⟨wo, rfl⟩ : ∃ wo : World, wo = wr := ⟨_, rfl⟩
      go_loopw [13] (fun t wr => ∃ q : Nat, (q : Int) ≤ pk ∧ t = .int .i64 q ∧ Below w6.heap.size w6 wr) (fun t _ => pk.toNat - (intOf t).toNat)
      case atStart => exact ⟨0, by omega, rfl, Below.refl _ _⟩
      case round =>
        obtain ⟨q, hq, rfl, hbq⟩ := hrel
        have m0q := keepc hbq m0
        have m1q := keepc hbq m1
        have l2q := keepc hbq l2
        have l3q := keepc hbq l3
        have c3q := keepc hbq c3
        by_cases hqlt : (q : Int) < pk
        · have hq0 : (0 : Int) ≤ (q : Int) := by omega
          cases hcq : canB H s (q : Int)
          · go_wp2_with fail
            refine (c_spec_CanThrow H s (q : Int) _ hvs (by omega) hsb).mono ?_; rintro e w7 ⟨rfl, hb7⟩
            rw [hcq]
            go_wp2_with fail
            go_roundw
            case rel => exact ⟨q + 1, by omega, by go_num, hbq.tr hb7⟩
            case measure => simp [intOf]; omega
          · have hd1 := HLEAST.out (q : Int) hq0 hqlt hcq
            have hmem := hthr.out (q : Int) hcq
            obtain ⟨-, hdv, hlk, -, -⟩ := HMS.out _ hmem
            have HDV := Lib.hid hdv
            have HLK := Lib.hid hlk
            clear hdv hlk
            go_wp2_with fail
            refine (c_spec_CanThrow H s (q : Int) _ hvs (by omega) hsb).mono ?_; rintro e w7 ⟨rfl, hb7⟩
            rw [hcq]
            have m0q := keepc hb7 m0q
            have m1q := keepc hb7 m1q
            have l2q := keepc hb7 l2q
            have l3q := keepc hb7 l3q
            go_wp2_with fail
            refine (c_spec_NextState H s (q : Int) _ hvs hcq (by omega) hsb (by omega)).mono ?_; rintro e w8 ⟨rfl, hb8⟩
            have l2q := keepc hb8 l2q
            have l3q := keepc hb8 l3q
            generalize nextM s (q : Int) = sq at *
            have l2a := al_c (Obj.cells #[Value.int IntKind.i64 H, Value.int IntKind.i64 sq] 36) l2q
            have l3a := al_c (Obj.cells #[Value.int IntKind.i64 H, Value.int IntKind.i64 sq] 36) l3q
            have BA : Below w6.heap.size w6 (w8.alloc (Obj.cells #[Value.int IntKind.i64 H, Value.int IntKind.i64 sq] 36)) := ((hbq.tr hb7).tr hb8).al _
            go_wp2_with fail
            refine (c_spec_Distance H sq H b _).mono ?_; rintro e w9 ⟨rfl, hb9⟩
            rw [HDV.out, HLK.out]
            have B9 := BA.tr hb9
            generalize farM H sq b = dd at *
            have hnl : ¬ dd < ((shortL H a b).length : Int) - (k : Int) := by omega
            go_wp2_with fail
            go_roundw
            case rel => exact ⟨q + 1, by omega, by go_num, B9⟩
            case measure => simp [intOf]; omega
        · obtain rfl : pk = (q : Int) := by omega
          have hfm0 := frozenc hbq m0 g0
          have hfm1 := frozenc hbq m1 g1
          have BQ := B6.tr hbq
          have hnbl : nb < wr.heap.size := World.block_lt_of_cell? wr _ m0q
          have hb3l : b3 < wr.heap.size := World.block_lt_of_cell? wr _ c3q
          have hne1 : ¬ wr.heap.size = nb := by omega
          have hne2 : ¬ wr.heap.size = b3 := by omega
          clear m0 m1 l2 l3 c3 HLEAST hthr HMS
          go_wp2_with fail
          go_region_held3 (fun w' => w'.cell? ⟨nb, 0, none⟩ = some (.int .i64 H) ∧ w'.cell? ⟨nb, 1, none⟩ = some (.int .i64 s) ∧ w'.cell? ⟨b3, o3 + k, none⟩ = some (.int .i64 (q : Int)))
            (go_keep)
            ((go_at_call 25; refine (c_spec_NextState H s (q : Int) _ hvs hcan (by omega) hsb (by omega)).mono ?_; rintro e w10 ⟨rfl, hb10⟩; first | (have hb10' := below_new hb10; obtain ⟨hc10, _⟩ := bcell hb10'; have hz10 : wr.heap.size < w10.heap.size := new_lt hb10; obtain ⟨n0, f0⟩ := new_cell hb10 0 _ rfl; obtain ⟨n1, f1⟩ := new_cell hb10 1 _ rfl) | (have hb10' := below_drew hb10; obtain ⟨hc10, _⟩ := bcell hb10'; have hz10 := hb10'.size)))
          have HNX : ∃ sn, Hid (nextM s (q : Int) = sn) := ⟨_, rfl⟩
          obtain ⟨sn, Hsn⟩ := HNX
          rw [Hsn.out] at hnm HDR ⊢
          have N0 : (w10.alloc (Obj.cells #[Value.int IntKind.i64 H, Value.int IntKind.i64 sn] 36)).cell? ⟨w10.heap.size, 0, none⟩ = some (.int .i64 H) := World.cell?_alloc_at _ _ _ _ rfl
          have N1 : (w10.alloc (Obj.cells #[Value.int IntKind.i64 H, Value.int IntKind.i64 sn] 36)).cell? ⟨w10.heap.size, 1, none⟩ = some (.int .i64 sn) := World.cell?_alloc_at _ _ _ _ rfl
          have hB10 : Below wr.heap.size wr (w10.alloc (Obj.cells #[Value.int IntKind.i64 H, Value.int IntKind.i64 sn] 36)) := hb10'.al _
          generalize (w10.alloc (Obj.cells #[Value.int IntKind.i64 H, Value.int IntKind.i64 sn] 36)) = w11 at *
          generalize w10.heap.size = nx at *
          rotate_left
          obtain ⟨sn, Hsn⟩ : ∃ sn, Hid (nextM s (q : Int) = sn) := ⟨_, rfl⟩
          rw [Hsn.out] at hnm HDR ⊢
          obtain ⟨N0, N1, -, hg2⟩ := set2 w10 wr.heap.size (.int .i64 H) (.int .i64 sn) _ _ n0 n1
          have hB10 : Below wr.heap.size wr ((w10.setCell ⟨wr.heap.size, 0, none⟩ (Value.int IntKind.i64 H)).setCell ⟨wr.heap.size, 1, none⟩ (Value.int IntKind.i64 sn)) := (hb10'.setCell (Nat.le_refl _) _).setCell (Nat.le_refl _) _
          generalize ((w10.setCell ⟨wr.heap.size, 0, none⟩ (Value.int IntKind.i64 H)).setCell ⟨wr.heap.size, 1, none⟩ (Value.int IntKind.i64 sn)) = w11 at *
          obtain ⟨nx, hnxe⟩ : ∃ nx, Hid (nx = wr.heap.size) := ⟨_, rfl⟩
          rw [← hnxe.out] at N0 N1 ⊢
          rotate_left
          all_goals
            have M0 := keepc hB10 m0q
            have M1 := keepc hB10 m1q
            have G0 := frozenc hB10 m0q hfm0
            have G1 := frozenc hB10 m1q hfm1
            obtain ⟨X0, X1, hF1, hg1⟩ := set2 w11 nb (.int .i64 H) (.int .i64 sn) _ _ M0 M1
            have B12 : Below w4.heap.size w4 ((w11.setCell ⟨nb, 0, none⟩ (.int .i64 H)).setCell ⟨nb, 1, none⟩ (.int .i64 sn)) := ((BQ.tr hB10).setCell (Nat.le_of_eq Hnb.out) _).setCell (Nat.le_of_eq Hnb.out) _
            have F0 : ((w11.setCell ⟨nb, 0, none⟩ (.int .i64 H)).setCell ⟨nb, 1, none⟩ (.int .i64 sn)).frozen? ⟨nb, 0, none⟩ = false := by rw [hF1]; exact G0
            have F1 : ((w11.setCell ⟨nb, 0, none⟩ (.int .i64 H)).setCell ⟨nb, 1, none⟩ (.int .i64 sn)).frozen? ⟨nb, 1, none⟩ = false := by rw [hF1]; exact G1
            go_wp2_with fail
            generalize ((w11.setCell ⟨nb, 0, none⟩ (.int .i64 H)).setCell ⟨nb, 1, none⟩ (.int .i64 sn)) = w12 at *
            go_roundw
            case rel => exact ⟨k + 1, sn, by omega, by go_num, hnm, HDR, B12, X0, X1, F0, F1⟩
            case measure => simp [intOf]; omega
    · obtain rfl : k = (shortL H a b).length := by omega
      have hsb : s = b := by
        have h1 := hdr.out
        rw [List.drop_length] at h1
        have h2 := congrArg List.length h1
        rw [shortL_len] at h2
        have h3 := farM_bd hh hs hbm
        simp only [List.length_nil] at h2
        exact farM_zero hh hs hbm (by omega)
      subst hsb
      have qs := fun w => eqlState w H s H s
      have qg := gState
      go_wp2_with fail
      go_ret
      exact ⟨by simp, BT.tr hbr⟩
theorem own : ownKnob Try.prog.godebug = none := by kernel_rfl
theorem laidOut : laidOutB Try.prog = true := by kernel_rfl
set_option maxRecDepth 100000 in
theorem lifted (os : Os) (started : os.Started) (H : Type) (enc : TypeId × Value → H) :
    ReturnsInHanded {} Try.checked os 13 .any (Rows.fnShortestSpec.pre6 enc Try.prog Try.f13 Rows.fnShortestRow.domain false) (Rows.fnShortestSpec.post enc Try.prog Try.f13 false true false false) := by
  refine returnsInHanded_of_change (C := Try.checked) own started (by kernel_rfl) Try.func13
    (ChangeSpec.witness6 (enc := enc) (C := Try.checked) false ⟨#[], #[.slice none 0 0], []⟩ 8 (by kernel_rfl) (by kernel_rfl) (by kernel_rfl) (by kernel_rfl)) ?_
  intro W base args ds gs before hval0 hW hcnd _
  have hval : ∀ (j : Nat) t v, Try.f13.params[j]? = some t → args[j]? = some v → Value.okWide Try.prog W .any base t v := hval0
  have hW' := hW
  obtain ⟨p, q, hA0, hV, rfl, hfz, hnd⟩ := hW
  have hA : DataW.TrodAll enc Try.prog W 0 (fun _ => true) true Try.f13.params.toList args.toList ds p := hA0
  rw [Try.params13] at hA hval
  obtain ⟨v0, vs0, d0, ds0, p0, q0, hargs, rfl, rfl, h0, r0⟩ := trodAll_cons hA
  obtain ⟨rfl, rfl, rfl⟩ := trodAll_nil r0
  obtain rfl : args = #[v0] := by cases args; simp_all
  obtain ⟨rfl, rfl⟩ := trodVars_none hV
  have k0 := h0
  have lt0 : ∀ x ∈ p0, x.block < W.heap.size := by obtain ⟨m, hm⟩ := k0; exact DataW.trod_lt m _ _ _ hm
  have a0 := open_bytes (hval 0 25 v0 rfl rfl) h0
  clear hA0 hval0
  refine (walk v0 W a0).mono fun e W' ⟨he, bel⟩ => ?_
  subst he
  exact ⟨_, rfl, _, _, _, [], _, [], hW', trodAll_mk1 (shut_bool Try.underlying4 _), (trodAll_cons_mk (Below.trod laidOut (by kernel_rfl) (of_decide_eq_true (by kernel_rfl)) k0 bel lt0) trodAll_mk0), rfl, bel.frame _, fun h => by cases h⟩
theorem over : Rows.fnShortestRow.holds Try.pinned (OpenSpec.ofChange Rows.fnShortestSpec) :=
  OpenClaim.holds_of_wide 13 Try.f13 rfl rfl rfl rfl rfl rfl rfl ⟨rfl, rfl, rfl, rfl, rfl⟩ rfl rfl rfl rfl rfl (by kernel_rfl) Try.func13 (by kernel_rfl)
    (of_decide_eq_true (by kernel_rfl)) (by unfold Func.isWrapper; first | (rw [if_pos (by decide +kernel)]; kernel_rfl) | (rw [if_neg (by decide +kernel)]; exact ⟨rfl, rfl⟩))
    (fun os started H enc _ => lifted os started H enc)
theorem proved : Rows.FnShortestSaid := over
end fnShortest
end Go.Proofs.Ytggffkklfdpmkaa
