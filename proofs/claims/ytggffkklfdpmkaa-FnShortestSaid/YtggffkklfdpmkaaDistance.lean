/- The law FnExactDistance returns true for all states. No condition. -/
import Derived.Test.YtggffkklfdpmkaaDist2
import Derived.Test.YtggffkklfdpmkaaLawC
namespace Go.Proofs.Ytggffkklfdpmkaa
open Go.ChangeShapes Go.WideShapes Go.ChangeAt Go.RowKit
set_option linter.unusedVariables false
noncomputable def distV (h m h2 m2 : Int) : Int := bif linkC h m h2 m2 == 0 then farM h m m2 else 0
theorem distL_at {h m m2 : Int} (hm : m2 ∈ maskL (popI m) h) : (distL h m).getD (idx (maskL (popI m) h) m2) 0 = farM h m m2 := by
  have hl := idx_lt hm
  have hg := idx_get hm
  unfold distL
  simp [List.getD, hl, hg]
set_option maxHeartbeats 1000000 in
set_option maxRecDepth 100000 in
theorem c_spec_Distance (h m h2 m2 : Int) (w : World) :
    Calls Try.prog 26 #[.agg #[.int .i64 h, .int .i64 m], .agg #[.int .i64 h2, .int .i64 m2]] w fun e w' => e = .returned (.tuple #[.int .i64 (distV h m h2 m2), .int .i64 (linkC h m h2 m2)]) ∧ Below w.heap.size w w' := by
  obtain ⟨W0, hW0, k0, k1, k2, k3, B0⟩ := twoStates w 36 h m h2 m2
  cases hc : (linkC h m h2 m2 != 0)
  · have hc0 : linkC h m h2 m2 = 0 := by simpa using hc
    have hdv : Hid (distV h m h2 m2 = farM h m m2) := by unfold Hid distV; rw [hc0]; rfl
    have HC := Lib.hid hc0
    obtain ⟨hv, hv2, hh, hp⟩ := linkC_ok hc0
    subst hh
    have hk := valid_iff hv
    have hm2 := (valid_bd hv2).2
    have hmem : m2 ∈ maskL (popI m) h := mem_maskL.2 ⟨(valid_iff hv2).2, hp.symm⟩
    have HMEM := Lib.hid hmem
    have HP := Lib.hid hp
    have HV := Lib.hid hv
    have hh1 : 1 ≤ h ∧ h ≤ 10 := hk.1
    have hsoM := Lib.hid (maskL_sorted (popI m) h)
    have hlen := maskL_len (popI m) h hh1
    have hix := idx_lt hmem
    have HDL := Lib.hid (distL_len h m)
    have HAT := Lib.hid (distL_at hmem)
    clear hp hk hmem hc0
    go_enter Try.func26, Try.ntmps26
    go_wp2_with fail
    rw [← hW0]
    refine (c_spec_l09Two _ _ _ _ _).mono ?_; rintro e w1 ⟨rfl, hb1⟩
    have k0 := keepc hb1 k0
    have k1 := keepc hb1 k1
    have k2 := keepc hb1 k2
    have k3 := keepc hb1 k3
    have B1 : Below w.heap.size w w1 := B0.tr hb1
    go_wp2_with fail
    refine (c_spec_l09From _ _ _ HV.out).mono ?_; rintro e w2 ⟨vl, rfl, hl2, hb2⟩
    have k0 := keepc hb2 k0
    have k1 := keepc hb2 k1
    have k2 := keepc hb2 k2
    have k3 := keepc hb2 k3
    have B2 : Below w.heap.size w w2 := B1.tr hb2
    obtain ⟨al, capl, rfl, hll, hlc⟩ := hl2.rd
    obtain ⟨bl, ol, rfl, hlx⟩ := hlc (idx (maskL (popI m) h) m2) (by rw [HDL.out]; exact hix)
    rw [HAT.out] at hlx
    have hx0 : (idx (maskL (popI m) h) m2) < (distL h m).length := by rw [HDL.out]; exact hix
    clear hW0 hb1 hb2 hlc
    obtain ⟨ix, Hix⟩ : ∃ ix : Nat, Hid (idx (maskL (popI m) h) m2 = ix) := ⟨_, rfl⟩
    rw [Hix.out] at hlx hx0
    go_wp2_with fail
    go_region_held3 (fun w' => w'.cell? ⟨w.heap.size + 1, 0, none⟩ = some (.int .i64 h) ∧ w'.cell? ⟨w.heap.size + 1, 1, none⟩ = some (.int .i64 m2) ∧ w'.cell? ⟨bl, ol + ix, none⟩ = some (.int .i64 (farM h m m2)))
      (go_keep)
      (first
        | ((go_at_call 72; refine (c_spec_l08Count m2 _ hm2).mono ?_; rintro e w3 ⟨rfl, rfl⟩; rw [← HP.out]))
        | ((go_at_call 58; refine (c_spec_l09Masks (popI m) h _ (by omega)).mono ?_; rintro e w4 ⟨v4, rfl, ho4, hb4⟩; have hb4' := below_drew hb4; have n2 := keepc hb4' k2; have n3 := keepc hb4' k3; have n4 := keepc hb4' hlx))
        | ((go_at_call 71; refine (c_spec_l09Find (maskL (popI m) h) m2 _ _ ho4.rd hsoM.out HMEM.out (by omega)).mono ?_; rintro e w5 ⟨rfl, rfl⟩; rw [Hix.out])))
    go_wp2
    go_ret2
    exact ⟨by rw [hdv.out, HC.out]; rfl, by (repeat (first | (with_reducible assumption) | (with_reducible exact Below.refl _ _) | (with_reducible refine Below.setCell ?_ (by first | (simp; done) | (simp; omega)) _) | (with_reducible refine Below.al ?_ _) | (with_reducible refine Below.dr ?_) | (with_reducible refine Below.drN ?_ _) | (with_reducible refine Below.tr ?_ (by with_reducible assumption))))⟩
  · have hdv : Hid (distV h m h2 m2 = 0) := by
      have : (linkC h m h2 m2 == 0) = false := by simpa using hc
      unfold Hid distV; rw [this]; rfl
    go_enter Try.func26, Try.ntmps26
    go_wp2_with fail
    rw [← hW0]
    refine (c_spec_l09Two _ _ _ _ _).mono ?_; rintro e w1 ⟨rfl, hb1⟩
    go_wp2
    go_ret2
    exact ⟨by rw [hdv.out]; rfl, by (repeat (first | (with_reducible assumption) | (with_reducible exact Below.refl _ _) | (with_reducible refine Below.setCell ?_ (by first | (simp; done) | (simp; omega)) _) | (with_reducible refine Below.al ?_ _) | (with_reducible refine Below.dr ?_) | (with_reducible refine Below.drN ?_ _) | (with_reducible refine Below.tr ?_ (by with_reducible assumption))))⟩
set_option maxHeartbeats 1000000 in
set_option maxRecDepth 100000 in
theorem c_impl_Distance (h m h2 m2 : Int) (w : World) :
    Calls Try.prog 28 #[.agg #[.int .i64 h, .int .i64 m], .agg #[.int .i64 h2, .int .i64 m2]] w fun e w' => e = .returned (.tuple #[.int .i64 (distV h m h2 m2), .int .i64 (linkC h m h2 m2)]) ∧ Below w.heap.size w w' := by
  obtain ⟨W0, hW0, k0, k1, k2, k3, B0⟩ := twoStates w 36 h m h2 m2
  cases hc : (linkC h m h2 m2 != 0)
  · have hc0 : linkC h m h2 m2 = 0 := by simpa using hc
    have hdv : Hid (distV h m h2 m2 = farM h m m2) := by unfold Hid distV; rw [hc0]; rfl
    have HC := Lib.hid hc0
    obtain ⟨hv, hv2, hh, hp⟩ := linkC_ok hc0
    subst hh
    have hk := valid_iff hv
    have hmq := hk.2
    have hh1 : 1 ≤ h ∧ h ≤ 10 := hk.1
    have hm2 := (valid_bd hv2).2
    have hmem : m2 ∈ maskL (popI m) h := mem_maskL.2 ⟨(valid_iff hv2).2, hp.symm⟩
    have HF : Hid ((dist (adjM h) m m2).getD 0 = farM h m m2) := rfl
    clear hp hk hmem hc0 hv hv2
    go_enter Try.func28, Try.ntmps28
    go_wp2_with fail
    rw [← hW0]
    refine (c_impl_linked _ _ _ _ _).mono ?_; rintro e w1 ⟨rfl, hb1⟩
    have k0 := keepc hb1 k0
    have k1 := keepc hb1 k1
    have k2 := keepc hb1 k2
    have k3 := keepc hb1 k3
    have B1 : Below w.heap.size w w1 := B0.tr hb1
    clear hW0 hb1
    go_wp2_with fail
    have hm2wf : -9223372036854775808 ≤ m2 ∧ m2 ≤ 9223372036854775807 := by omega
    go_region_held3 (fun w' => w'.cell? ⟨w.heap.size, 0, none⟩ = some (.int .i64 h) ∧ w'.cell? ⟨w.heap.size, 1, none⟩ = some (.int .i64 m) ∧ w'.cell? ⟨w.heap.size + 1, 0, none⟩ = some (.int .i64 h) ∧ w'.cell? ⟨w.heap.size + 1, 1, none⟩ = some (.int .i64 m2))
      (go_keep)
      (first
        | ((go_at_call 74; refine (c_impl_distancesFrom h m _ hh1 hmq).mono ?_; rintro e w2 ⟨bm, rfl, hom, hb2⟩; have hb2' := below_drew hb2; have n0 := keepc hb2' k0; have n1 := keepc hb2' k1; have n2 := keepc hb2' k2; have n3 := keepc hb2' k3; have hrun := OwnM.run_get hom Try.underlying74 Try.underlying2 Try.underlying2 zeroI m2 hm2wf; rw [HF.out] at hrun)))
    go_wp2
    go_ret2
    exact ⟨by rw [hdv.out, HC.out]; rfl, by (repeat (first | (with_reducible assumption) | (with_reducible exact Below.refl _ _) | (with_reducible refine Below.setCell ?_ (by first | (simp; done) | (simp; omega)) _) | (with_reducible refine Below.al ?_ _) | (with_reducible refine Below.dr ?_) | (with_reducible refine Below.drN ?_ _) | (with_reducible refine Below.tr ?_ (by with_reducible assumption))))⟩
  · have hdv : Hid (distV h m h2 m2 = 0) := by
      have : (linkC h m h2 m2 == 0) = false := by simpa using hc
      unfold Hid distV; rw [this]; rfl
    go_enter Try.func28, Try.ntmps28
    go_wp2_with fail
    rw [← hW0]
    refine (c_impl_linked _ _ _ _ _).mono ?_; rintro e w1 ⟨rfl, hb1⟩
    go_wp2
    go_ret2
    exact ⟨by rw [hdv.out]; rfl, by (repeat (first | (with_reducible assumption) | (with_reducible exact Below.refl _ _) | (with_reducible refine Below.setCell ?_ (by first | (simp; done) | (simp; omega)) _) | (with_reducible refine Below.al ?_ _) | (with_reducible refine Below.dr ?_) | (with_reducible refine Below.drN ?_ _) | (with_reducible refine Below.tr ?_ (by with_reducible assumption))))⟩
namespace fnExactDistance
set_option maxHeartbeats 4000000 in
theorem walk_gen (w : World) (a0h a0m : Int) (a1h a1m : Int) (c0 : Int) (c1 : Int) 
    (hs : ∀ (w : World), Calls Try.prog 26 #[.agg #[.int .i64 a0h, .int .i64 a0m], .agg #[.int .i64 a1h, .int .i64 a1m]] w fun e w' => e = .returned (.tuple #[.int .i64 c0, .int .i64 c1]) ∧ Below w.heap.size w w')
    (hi : ∀ (w : World), Calls Try.prog 28 #[.agg #[.int .i64 a0h, .int .i64 a0m], .agg #[.int .i64 a1h, .int .i64 a1m]] w fun e w' => e = .returned (.tuple #[.int .i64 c0, .int .i64 c1]) ∧ Below w.heap.size w w') :
    Calls Try.prog 5 #[.agg #[.int .i64 a0h, .int .i64 a0m], .agg #[.int .i64 a1h, .int .i64 a1m]] w fun e w' => e = .returned (.bool true) ∧ Below w.heap.size w w' := by
  have HS := Lib.hid hs
  have HI := Lib.hid hi
  clear hs hi
  have tc0 : (c0 != c0) = false := by simp
  have tc1 : (c1 != c1) = false := by simp
  go_enter Try.func5, Try.ntmps5
  go_wp2_with fail
  obtain ⟨W0, hW0⟩ : ∃ W0, W0 = ((w.alloc (Obj.cells #[Value.int IntKind.i64 a0h, Value.int IntKind.i64 a0m] 43)).alloc (Obj.cells #[Value.int IntKind.i64 a1h, Value.int IntKind.i64 a1m] 43)) := ⟨_, rfl⟩
  have B0 : Below w.heap.size w W0 := by rw [hW0]; (repeat (first | (with_reducible assumption) | (with_reducible exact Below.refl _ _) | (with_reducible refine Below.setCell ?_ (by first | (simp; done) | (simp; omega)) _) | (with_reducible refine Below.al ?_ _) | (with_reducible refine Below.dr ?_) | (with_reducible refine Below.drN ?_ _) | (with_reducible refine Below.tr ?_ (by with_reducible assumption))))
  have hs0 : w.heap.size + 2 = W0.heap.size := by rw [hW0]; simp
  have k0_0_0 : W0.cell? ⟨w.heap.size, 0, none⟩ = some (.int .i64 a0h) := by rw [hW0]; go_simp
  have k0_1_0 : W0.cell? ⟨w.heap.size, 1, none⟩ = some (.int .i64 a0m) := by rw [hW0]; go_simp
  have k1_0_0 : W0.cell? ⟨w.heap.size + 1, 0, none⟩ = some (.int .i64 a1h) := by rw [hW0]; go_simp
  have k1_1_0 : W0.cell? ⟨w.heap.size + 1, 1, none⟩ = some (.int .i64 a1m) := by rw [hW0]; go_simp
  rw [← hW0]
  have HS0 := Lib.hid hs0
  have hz0 : w.heap.size + 1 < W0.heap.size := by omega
  clear hW0 hs0
  have BP : Below W0.heap.size W0 W0 := Below.refl _ _
  have k0_0_q := k0_0_0
  have k0_1_q := k0_1_0
  have k1_0_q := k1_0_0
  have k1_1_q := k1_1_0
  go_region_held3 (fun w' => w'.cell? ⟨w.heap.size, 0, none⟩ = some (.int .i64 a0h) ∧ w'.cell? ⟨w.heap.size, 1, none⟩ = some (.int .i64 a0m) ∧ w'.cell? ⟨w.heap.size + 1, 0, none⟩ = some (.int .i64 a1h) ∧ w'.cell? ⟨w.heap.size + 1, 1, none⟩ = some (.int .i64 a1m))
    (go_keep)
    (first
      | ((go_at_call 27; refine (c_laws_toState _ _ _).mono ?_; rintro e Wq ⟨rfl, hq⟩; first | (have hq := below_drew hq; have k0_0_q := keepc hq k0_0_q; have k0_1_q := keepc hq k0_1_q; have k1_0_q := keepc hq k1_0_q; have k1_1_q := keepc hq k1_1_q; have BP := Below.tr BP hq) | (have k0_0_q := keepc hq k0_0_q; have k0_1_q := keepc hq k0_1_q; have k1_0_q := keepc hq k1_0_q; have k1_1_q := keepc hq k1_1_q; have BP := Below.tr BP hq)))
      | ((go_at_call 26; have hsq1 := BP.size; refine (HS.out _).mono ?_; rintro e W1 ⟨rfl, hq⟩; have k0_0_1 := keepc hq k0_0_q; have k0_1_1 := keepc hq k0_1_q; have k1_0_1 := keepc hq k1_0_q; have k1_1_1 := keepc hq k1_1_q; have hb1 := Below.tr BP hq)))
  have hs1 := hb1.size
  have B1 : Below w.heap.size w W1 := B0.tr hb1
  have hz1 : w.heap.size + 1 < W1.heap.size := by omega
  go_wp2_with fail
  have BP : Below W1.heap.size W1 W1 := Below.refl _ _
  have k0_0_q := k0_0_1
  have k0_1_q := k0_1_1
  have k1_0_q := k1_0_1
  have k1_1_q := k1_1_1
  go_region_held3 (fun w' => w'.cell? ⟨w.heap.size, 0, none⟩ = some (.int .i64 a0h) ∧ w'.cell? ⟨w.heap.size, 1, none⟩ = some (.int .i64 a0m) ∧ w'.cell? ⟨w.heap.size + 1, 0, none⟩ = some (.int .i64 a1h) ∧ w'.cell? ⟨w.heap.size + 1, 1, none⟩ = some (.int .i64 a1m))
    (go_keep)
    (first
      | ((go_at_call 27; refine (c_laws_toState _ _ _).mono ?_; rintro e Wq ⟨rfl, hq⟩; first | (have hq := below_drew hq; have k0_0_q := keepc hq k0_0_q; have k0_1_q := keepc hq k0_1_q; have k1_0_q := keepc hq k1_0_q; have k1_1_q := keepc hq k1_1_q; have BP := Below.tr BP hq) | (have k0_0_q := keepc hq k0_0_q; have k0_1_q := keepc hq k0_1_q; have k1_0_q := keepc hq k1_0_q; have k1_1_q := keepc hq k1_1_q; have BP := Below.tr BP hq)))
      | ((go_at_call 28; have hsq2 := BP.size; refine (HI.out _).mono ?_; rintro e W2 ⟨rfl, hq⟩; have k0_0_2 := keepc hq k0_0_q; have k0_1_2 := keepc hq k0_1_q; have k1_0_2 := keepc hq k1_0_q; have k1_1_2 := keepc hq k1_1_q; have hb2 := Below.tr BP hq)))
  have hs2 := hb2.size
  have B2 : Below w.heap.size w W2 := B1.tr hb2
  have hz2 : w.heap.size + 1 < W2.heap.size := by omega
  go_wp2
  go_ret
  exact ⟨rfl, B2⟩
theorem walk (v0 v1 : Value) (w : World) (a0 : Arg_State w v0) (a1 : Arg_State w v1) : Calls Try.prog 5 #[v0, v1] w fun e w' => e = .returned (.bool true) ∧ Below w.heap.size w w' := by
  obtain ⟨h, m, rfl⟩ := a0
  obtain ⟨h2, m2, rfl⟩ := a1
  exact walk_gen w h m h2 m2 _ _ (fun w => c_spec_Distance h m h2 m2 w) (fun w => c_impl_Distance h m h2 m2 w)
theorem own : ownKnob Try.prog.godebug = none := by kernel_rfl
theorem laidOut : laidOutB Try.prog = true := by kernel_rfl
set_option maxRecDepth 100000 in
theorem lifted (os : Os) (started : os.Started) (H : Type) (enc : TypeId × Value → H) :
    ReturnsInHanded {} Try.checked os 5 .any (Rows.fnExactDistanceSpec.pre6 enc Try.prog Try.f5 Rows.fnExactDistanceRow.domain false) (Rows.fnExactDistanceSpec.post enc Try.prog Try.f5 false true false false) := by
  refine returnsInHanded_of_change (C := Try.checked) own started (by kernel_rfl) Try.func5
    (ChangeSpec.witness6 (enc := enc) (C := Try.checked) false ⟨#[], #[.agg #[.int .i64 0, .int .i64 0], .agg #[.int .i64 0, .int .i64 0]], []⟩ 8 (by kernel_rfl) (by kernel_rfl) (by kernel_rfl) (by kernel_rfl)) ?_
  intro W base args ds gs before hval0 hW hcnd _
  have hval : ∀ (j : Nat) t v, Try.f5.params[j]? = some t → args[j]? = some v → Value.okWide Try.prog W .any base t v := hval0
  have hW' := hW
  obtain ⟨p, q, hA0, hV, rfl, hfz, hnd⟩ := hW
  have hA : DataW.TrodAll enc Try.prog W 0 (fun _ => true) true Try.f5.params.toList args.toList ds p := hA0
  rw [Try.params5] at hA hval
  obtain ⟨v0, vs0, d0, ds0, p0, q0, hargs, rfl, rfl, h0, r0⟩ := trodAll_cons hA
  obtain ⟨v1, vs1, d1, ds1, p1, q1, rfl, rfl, rfl, h1, r1⟩ := trodAll_cons r0
  obtain ⟨rfl, rfl, rfl⟩ := trodAll_nil r1
  obtain rfl : args = #[v0, v1] := by cases args; simp_all
  obtain ⟨rfl, rfl⟩ := trodVars_none hV
  have k0 := h0
  have lt0 : ∀ x ∈ p0, x.block < W.heap.size := by obtain ⟨m, hm⟩ := k0; exact DataW.trod_lt m _ _ _ hm
  have a0 := open_State (hval 0 43 v0 rfl rfl) h0
  have k1 := h1
  have lt1 : ∀ x ∈ p1, x.block < W.heap.size := by obtain ⟨m, hm⟩ := k1; exact DataW.trod_lt m _ _ _ hm
  have a1 := open_State (hval 1 43 v1 rfl rfl) h1
  clear hA0 hval0
  refine (walk v0 v1 W a0 a1).mono fun e W' ⟨he, bel⟩ => ?_
  subst he
  exact ⟨_, rfl, _, _, _, [], _, [], hW', trodAll_mk1 (shut_bool Try.underlying4 _), (trodAll_cons_mk (Below.trod laidOut (by kernel_rfl) (of_decide_eq_true (by kernel_rfl)) k0 bel lt0) (trodAll_cons_mk (Below.trod laidOut (by kernel_rfl) (of_decide_eq_true (by kernel_rfl)) k1 bel lt1) trodAll_mk0)), rfl, bel.frame _, fun h => by cases h⟩
theorem over : Rows.fnExactDistanceRow.holds Try.pinned (OpenSpec.ofChange Rows.fnExactDistanceSpec) :=
  OpenClaim.holds_of_wide 5 Try.f5 rfl rfl rfl rfl rfl rfl rfl ⟨rfl, rfl, rfl, rfl, rfl⟩ rfl rfl rfl rfl rfl (by kernel_rfl) Try.func5 (by kernel_rfl)
    (of_decide_eq_true (by kernel_rfl)) (by unfold Func.isWrapper; first | (rw [if_pos (by decide +kernel)]; kernel_rfl) | (rw [if_neg (by decide +kernel)]; exact ⟨rfl, rfl⟩))
    (fun os started H enc _ => lifted os started H enc)
theorem proved : Rows.FnExactDistanceSaid := over
end fnExactDistance
end Go.Proofs.Ytggffkklfdpmkaa
