/- The law FnExactLoopOf returns true for all slices of int64 and all int64s. No condition. -/
import Derived.Test.YtjlpmlclicemdaaLoop
import Derived.Test.YtjlpmlclicemdaaLawC
namespace Go.Proofs.Ytjlpmlclicemdaa
open Go.ChangeShapes Go.WideShapes Go.ChangeAt Go.RowKit
set_option linter.unusedVariables false
namespace fnExactLoopOf
set_option maxHeartbeats 4000000 in
theorem walk_gen (w : World) (a0x : List Int) (a0v : Value) (a0r : RdI w a0v a0x) (a1x : List Int) (a1v : Value) (a1r : RdI w a1v a1x) (a2n : Int) (a2b : -9223372036854775808 ≤ a2n ∧ a2n ≤ 9223372036854775807) (d0 : List Int) (c1 : Int) (hd0 : (d0).length ≤ 1000000)
    (hs : ∀ (w : World) (u0 : Value) (u1 : Value) (_ : RdI w u0 a0x) (_ : RdI w u1 a1x), Calls Try.prog 25 #[u0, u1, .int .i64 a2n] w fun e w' => ∃ r0, e = .returned (.tuple #[r0, .int .i64 c1]) ∧ OwnI1 w.heap.size w' r0 d0 ∧ Below w.heap.size w w')
    (hi : ∀ (w : World) (u0 : Value) (u1 : Value) (_ : RdI w u0 a0x) (_ : RdI w u1 a1x), Calls Try.prog 26 #[u0, u1, .int .i64 a2n] w fun e w' => ∃ r0, e = .returned (.tuple #[r0, .int .i64 c1]) ∧ OwnI1 w.heap.size w' r0 d0 ∧ Below w.heap.size w w') :
    Calls Try.prog 6 #[a0v, a1v, .int .i64 a2n] w fun e w' => e = .returned (.bool true) ∧ Below w.heap.size w w' := by
  have HS := Lib.hid hs
  have HI := Lib.hid hi
  clear hs hi
  have tc1 : (c1 != c1) = false := by simp
  by_cases hg0 : a0x.length ≤ 1048576
  rotate_left
  · obtain ⟨aa, cc, rfl, _, _⟩ := a0r
    go_enter Try.func6, Try.ntmps6
    go_wp2
    go_ret
    exact ⟨rfl, by (repeat (first | (with_reducible assumption) | (with_reducible exact Below.refl _ _) | (with_reducible refine Below.setCell ?_ (by first | (simp; done) | (simp; omega)) _) | (with_reducible refine Below.al ?_ _) | (with_reducible refine Below.dr ?_) | (with_reducible refine Below.drN ?_ _) | (with_reducible refine Below.tr ?_ (by with_reducible assumption))))⟩
  by_cases hg1 : a1x.length ≤ 1048576
  rotate_left
  · obtain ⟨aa, cc, rfl, _, _⟩ := a1r
    obtain ⟨ab, cd, rfl, _, _⟩ := a0r
    go_enter Try.func6, Try.ntmps6
    go_wp2
    go_ret
    exact ⟨rfl, by (repeat (first | (with_reducible assumption) | (with_reducible exact Below.refl _ _) | (with_reducible refine Below.setCell ?_ (by first | (simp; done) | (simp; omega)) _) | (with_reducible refine Below.al ?_ _) | (with_reducible refine Below.dr ?_) | (with_reducible refine Below.drN ?_ _) | (with_reducible refine Below.tr ?_ (by with_reducible assumption))))⟩
  obtain ⟨aa0, cc0, rfl, al0, ac0⟩ := a0r
  have a0r : RdI w (.slice aa0 a0x.length cc0) a0x := ⟨aa0, cc0, rfl, al0, ac0⟩
  clear ac0
  obtain ⟨aa1, cc1, rfl, al1, ac1⟩ := a1r
  have a1r : RdI w (.slice aa1 a1x.length cc1) a1x := ⟨aa1, cc1, rfl, al1, ac1⟩
  clear ac1
  go_enter Try.func6, Try.ntmps6
  go_wp2_with fail
  obtain ⟨W0, hW0⟩ : ∃ W0, W0 = w := ⟨_, rfl⟩
  have B0 : Below w.heap.size w W0 := by rw [hW0]; (repeat (first | (with_reducible assumption) | (with_reducible exact Below.refl _ _) | (with_reducible refine Below.setCell ?_ (by first | (simp; done) | (simp; omega)) _) | (with_reducible refine Below.al ?_ _) | (with_reducible refine Below.dr ?_) | (with_reducible refine Below.drN ?_ _) | (with_reducible refine Below.tr ?_ (by with_reducible assumption))))
  have hs00 : w.heap.size ≤ W0.heap.size := B0.size
  rw [← hW0]
  clear hW0
  refine (c_laws_toInt64S a0x _ _ (a0r.below B0) (by omega)).mono ?_; rintro e W1 ⟨rfl, ht1, hb1⟩
  have hs1 := hb1.size
  have B1 : Below w.heap.size w W1 := B0.tr hb1
  go_wp2_with fail
  refine (c_laws_toInt64S a1x _ _ (a1r.below B1) (by omega)).mono ?_; rintro e W2 ⟨rfl, ht2, hb2⟩
  have hs2 := hb2.size
  have B2 : Below w.heap.size w W2 := B1.tr hb2
  go_wp2_with fail
  refine (HS.out _ _ _ ((((ht1).ir).below hb2)).rd (((ht2).ir)).rd).mono ?_; rintro e W3 ⟨w0, rfl, hw0, hb3⟩
  have hs3 := hb3.size
  have B3 : Below w.heap.size w W3 := B2.tr hb3
  go_wp2_with fail
  refine (c_laws_toInt64S a0x _ _ (a0r.below B3) (by omega)).mono ?_; rintro e W4 ⟨rfl, ht3, hb4⟩
  have hs4 := hb4.size
  have B4 : Below w.heap.size w W4 := B3.tr hb4
  go_wp2_with fail
  refine (c_laws_toInt64S a1x _ _ (a1r.below B4) (by omega)).mono ?_; rintro e W5 ⟨rfl, ht4, hb5⟩
  have hs5 := hb5.size
  have B5 : Below w.heap.size w W5 := B4.tr hb5
  go_wp2_with fail
  refine (HI.out _ _ _ ((((ht3).ir).below hb5)).rd (((ht4).ir)).rd).mono ?_; rintro e W6 ⟨g0, rfl, hg0, hb6⟩
  have hs6 := hb6.size
  have B6 : Below w.heap.size w W6 := B5.tr hb6
  go_wp2_with fail
  refine (c_laws_eqInt64S d0 d0 _ _ _ (((hg0).ir)).rd ((((((hw0).ir).below hb4).below hb5).below hb6)).rd).mono ?_; rintro e W7 ⟨rfl, hb7⟩
  have hs7 := hb7.size
  have B7 : Below w.heap.size w W7 := B6.tr hb7
  go_wp2_with fail
  refine (c_laws_toInt64S a0x _ _ (a0r.below B7) (by omega)).mono ?_; rintro e W8 ⟨rfl, ht5, hb8⟩
  have hs8 := hb8.size
  have B8 : Below w.heap.size w W8 := B7.tr hb8
  go_wp2_with fail
  refine (c_laws_eqInt64S a0x a0x _ _ _ (((((((ht3).ir).below hb5).below hb6).below hb7).below hb8)).rd (((ht5).ir)).rd).mono ?_; rintro e W9 ⟨rfl, hb9⟩
  have hs9 := hb9.size
  have B9 : Below w.heap.size w W9 := B8.tr hb9
  go_wp2_with fail
  refine (c_laws_toInt64S a1x _ _ (a1r.below B9) (by omega)).mono ?_; rintro e W10 ⟨rfl, ht6, hb10⟩
  have hs10 := hb10.size
  have B10 : Below w.heap.size w W10 := B9.tr hb10
  go_wp2_with fail
  refine (c_laws_eqInt64S a1x a1x _ _ _ ((((((((ht4).ir).below hb6).below hb7).below hb8).below hb9).below hb10)).rd (((ht6).ir)).rd).mono ?_; rintro e W11 ⟨rfl, hb11⟩
  have hs11 := hb11.size
  have B11 : Below w.heap.size w W11 := B10.tr hb11
  go_wp2_with fail
  refine (m_Int64S W3.heap.size W4.heap.size a0x 1 _ _ (((((((((ht3).ir).below hb5).below hb6).below hb7).below hb8).below hb9).below hb10).below hb11) (by omega) (by omega)).mono ?_; rintro e W12 ⟨rfl, hm12, hu12⟩
  have hs12 := hu12.size
  have B12 : Below w.heap.size w W12 := B11.trans (hu12.below (by omega) (by omega))
  have hv12 : 0 ≤ (1 + ((a0x).length : Int)) := by omega
  go_wp2_with fail
  refine (m_Int64S W4.heap.size W5.heap.size a1x (1 + ((a0x).length : Int)) _ _ (((((((((ht4).ir).below hb6).below hb7).below hb8).below hb9).below hb10).below hb11).upd hu12 (by omega)) (by omega) (by omega)).mono ?_; rintro e W13 ⟨rfl, hm13, hu13⟩
  have hs13 := hu13.size
  have B13 : Below w.heap.size w W13 := B12.trans (hu13.below (by omega) (by omega))
  have hv13 : 0 ≤ ((1 + ((a0x).length : Int)) + ((a1x).length : Int)) := by omega
  have tk : ¬ (((1 + ((a0x).length : Int)) + ((a1x).length : Int)) < 0) := by omega
  go_wp2_with fail
  refine (c_laws_eqInt64S d0 d0 _ _ _ ((((((((((hg0).ir).below hb7).below hb8).below hb9).below hb10).below hb11).upd hu12 (by omega)).upd hu13 (by omega))).rd (((((((((((((hw0).ir).below hb4).below hb5).below hb6).below hb7).below hb8).below hb9).below hb10).below hb11).upd hu12 (by omega)).upd hu13 (by omega))).rd).mono ?_; rintro e W14 ⟨rfl, hb14⟩
  have hs14 := hb14.size
  have B14 : Below w.heap.size w W14 := B13.tr hb14
  go_wp2_with fail
  refine (m_Int64S W5.heap.size W6.heap.size d0 1 _ _ ((((((((((hg0).ir).below hb7).below hb8).below hb9).below hb10).below hb11).upd hu12 (by omega)).upd hu13 (by omega)).below hb14) (by omega) (by omega)).mono ?_; rintro e W15 ⟨rfl, hm15, hu15⟩
  have hs15 := hu15.size
  have B15 : Below w.heap.size w W15 := B14.trans (hu15.below (by omega) (by omega))
  have hv15 : 0 ≤ (1 + ((d0).length : Int)) := by omega
  go_wp2_with fail
  refine (c_laws_heldInt64S (d0).length 1 _ _ (hm15).rd (by omega) (by omega)).mono ?_; rintro e Wp ⟨rfl, rfl⟩
  have tn28 : ¬ ((1 + ((d0).length : Int)) < 0) := by omega
  have te28 : ((1 + ((d0).length : Int)) != (1 + ((d0).length : Int))) = false := by simp
  go_wp2_with fail
  refine (c_laws_toInt64S a0x _ _ (a0r.below B15) (by omega)).mono ?_; rintro e W16 ⟨rfl, ht7, hb16⟩
  have hs16 := hb16.size
  have B16 : Below w.heap.size w W16 := B15.tr hb16
  go_wp2_with fail
  refine (c_laws_toInt64S a1x _ _ (a1r.below B16) (by omega)).mono ?_; rintro e W17 ⟨rfl, ht8, hb17⟩
  have hs17 := hb17.size
  have B17 : Below w.heap.size w W17 := B16.tr hb17
  go_wp2_with fail
  refine (HI.out _ _ _ ((((ht7).ir).below hb17)).rd (((ht8).ir)).rd).mono ?_; rintro e W18 ⟨h0, rfl, hh0, hb18⟩
  have hs18 := hb18.size
  have B18 : Below w.heap.size w W18 := B17.tr hb18
  go_wp2_with fail
  refine (c_laws_eqInt64S d0 d0 _ _ _ (((hh0).ir)).rd ((((((((((((((((((hw0).ir).below hb4).below hb5).below hb6).below hb7).below hb8).below hb9).below hb10).below hb11).upd hu12 (by omega)).upd hu13 (by omega)).below hb14).upd hu15 (by omega)).below hb16).below hb17).below hb18)).rd).mono ?_; rintro e W19 ⟨rfl, hb19⟩
  have hs19 := hb19.size
  have B19 : Below w.heap.size w W19 := B18.tr hb19
  go_wp2_with fail
  refine (c_laws_heldInt64S (d0).length 1 _ _ (((((hm15.below hb16).below hb17).below hb18).below hb19)).rd (by omega) (by omega)).mono ?_; rintro e Wp ⟨rfl, rfl⟩
  have tn40 : ¬ ((1 + ((d0).length : Int)) < 0) := by omega
  have te40 : ((1 + ((d0).length : Int)) != (1 + ((d0).length : Int))) = false := by simp
  go_wp2
  go_ret
  exact ⟨rfl, B19⟩
theorem walk (v0 v1 v2 : Value) (w : World) (a0 : Arg_ints w v0) (a1 : Arg_ints w v1) (a2 : Arg_int64 w v2) : Calls Try.prog 6 #[v0, v1, v2] w fun e w' => e = .returned (.bool true) ∧ Below w.heap.size w w' := by
  obtain ⟨p, hp⟩ := a0
  obtain ⟨q, hq⟩ := a1
  obtain ⟨h, rfl, hh⟩ := a2
  exact walk_gen w p v0 hp q v1 hq h hh _ _ (loopX_len p q h) (fun w u u2 hu hu2 => c_spec_LoopOf p q h u u2 w hu hu2) (fun w u u2 hu hu2 => c_impl_LoopOf p q h u u2 w hu hu2)
theorem own : ownKnob Try.prog.godebug = none := by kernel_rfl
theorem laidOut : laidOutB Try.prog = true := by kernel_rfl
set_option maxRecDepth 100000 in
theorem lifted (os : Os) (started : os.Started) (H : Type) (enc : TypeId × Value → H) :
    ReturnsInHanded {} Try.checked os 6 .any (Rows.fnExactLoopOfSpec.pre6 enc Try.prog Try.f6 Rows.fnExactLoopOfRow.domain false) (Rows.fnExactLoopOfSpec.post enc Try.prog Try.f6 false true false false) := by
  refine returnsInHanded_of_change (C := Try.checked) own started (by kernel_rfl) Try.func6
    (ChangeSpec.witness6 (enc := enc) (C := Try.checked) false ⟨#[], #[.slice none 0 0, .slice none 0 0, .int .i64 0], []⟩ 8 (by kernel_rfl) (by kernel_rfl) (by kernel_rfl) (by kernel_rfl)) ?_
  intro W base args ds gs before hval0 hW hcnd _
  have hval : ∀ (j : Nat) t v, Try.f6.params[j]? = some t → args[j]? = some v → Value.okWide Try.prog W .any base t v := hval0
  have hW' := hW
  obtain ⟨p, q, hA0, hV, rfl, hfz, hnd⟩ := hW
  have hA : DataW.TrodAll enc Try.prog W 0 (fun _ => true) true Try.f6.params.toList args.toList ds p := hA0
  rw [Try.params6] at hA hval
  obtain ⟨v0, vs0, d0, ds0, p0, q0, hargs, rfl, rfl, h0, r0⟩ := trodAll_cons hA
  obtain ⟨v1, vs1, d1, ds1, p1, q1, rfl, rfl, rfl, h1, r1⟩ := trodAll_cons r0
  obtain ⟨v2, vs2, d2, ds2, p2, q2, rfl, rfl, rfl, h2, r2⟩ := trodAll_cons r1
  obtain ⟨rfl, rfl, rfl⟩ := trodAll_nil r2
  obtain rfl : args = #[v0, v1, v2] := by cases args; simp_all
  obtain ⟨rfl, rfl⟩ := trodVars_none hV
  have k0 := h0
  have lt0 : ∀ x ∈ p0, x.block < W.heap.size := by obtain ⟨m, hm⟩ := k0; exact DataW.trod_lt m _ _ _ hm
  have a0 := open_intsArg (hval 0 22 v0 rfl rfl) h0
  have k1 := h1
  have lt1 : ∀ x ∈ p1, x.block < W.heap.size := by obtain ⟨m, hm⟩ := k1; exact DataW.trod_lt m _ _ _ hm
  have a1 := open_intsArg (hval 1 22 v1 rfl rfl) h1
  have k2 := h2
  have lt2 : ∀ x ∈ p2, x.block < W.heap.size := by obtain ⟨m, hm⟩ := k2; exact DataW.trod_lt m _ _ _ hm
  have a2 := open_int64 (hval 2 2 v2 rfl rfl) h2
  clear hA0 hval0
  refine (walk v0 v1 v2 W a0 a1 a2).mono fun e W' ⟨he, bel⟩ => ?_
  subst he
  exact ⟨_, rfl, _, _, _, [], _, [], hW', trodAll_mk1 (shut_bool Try.underlying4 _), (trodAll_cons_mk (Below.trod laidOut (by kernel_rfl) (of_decide_eq_true (by kernel_rfl)) k0 bel lt0) (trodAll_cons_mk (Below.trod laidOut (by kernel_rfl) (of_decide_eq_true (by kernel_rfl)) k1 bel lt1) (trodAll_cons_mk (Below.trod laidOut (by kernel_rfl) (of_decide_eq_true (by kernel_rfl)) k2 bel lt2) trodAll_mk0))), rfl, bel.frame _, fun h => by cases h⟩
theorem over : Rows.fnExactLoopOfRow.holds Try.pinned (OpenSpec.ofChange Rows.fnExactLoopOfSpec) :=
  OpenClaim.holds_of_wide 6 Try.f6 rfl rfl rfl rfl rfl rfl rfl ⟨rfl, rfl, rfl, rfl, rfl⟩ rfl rfl rfl rfl rfl (by kernel_rfl) Try.func6 (by kernel_rfl)
    (of_decide_eq_true (by kernel_rfl)) (by unfold Func.isWrapper; first | (rw [if_pos (by decide +kernel)]; kernel_rfl) | (rw [if_neg (by decide +kernel)]; exact ⟨rfl, rfl⟩))
    (fun os started H enc _ => lifted os started H enc)
theorem proved : Rows.FnExactLoopOfSaid := over
end fnExactLoopOf
end Go.Proofs.Ytjlpmlclicemdaa
