/- The law FnExactLinesOf returns true for all states and all slices of int64. No condition. -/
import Derived.Test.YtddfdppoclnpcaaLinU
import Derived.Test.YtddfdppoclnpcaaLawT
import Derived.Test.YtddfdppoclnpcaaLawC
namespace Go.Proofs.Ytddfdppoclnpcaa
open Go.ChangeShapes Go.WideShapes Go.ChangeAt Go.RowKit
set_option linter.unusedVariables false
namespace fnExactLinesOf
theorem linL_len (h m : Int) (xs : List Int) : (linL h m xs).length ≤ 1000000 := by
  unfold linL
  by_cases hl : xs.length ≤ 696
  · cases validB h m && runOk h m xs
    · simp
    · rw [decide_eq_true hl]
      show (linR h m xs).length ≤ _
      unfold linR
      rw [List.length_cons, List.length_append, thrL_len]
      unfold thrN
      show _ + 1 + 1 ≤ _
      omega
  · rw [decide_eq_false hl, Bool.and_false]
    simp
set_option maxHeartbeats 4000000 in
theorem walk_gen (w : World) (a0h a0m : Int) (a1x : List Int) (a1v : Value) (a1r : RdI w a1v a1x) (d0 : List ByteArray) (c1 : Int) (hd0 : (d0).length ≤ 1000000)
    (hs : ∀ (w : World) (u1 : Value) (_ : RdC w u1 a1x ∧ a1x.length ≤ 2000000), Calls Try.prog 10 #[.agg #[.int .i64 a0h, .int .i64 a0m], u1] w fun e w' => ∃ r0, e = .returned (.tuple #[r0, .int .i64 c1]) ∧ OwnT w.heap.size w'.heap.size w' r0 d0 ∧ Below w.heap.size w w')
    (hi : ∀ (w : World) (u1 : Value) (_ : RdC w u1 a1x ∧ a1x.length ≤ 2000000), Calls Try.prog 13 #[.agg #[.int .i64 a0h, .int .i64 a0m], u1] w fun e w' => ∃ r0, e = .returned (.tuple #[r0, .int .i64 c1]) ∧ OwnT w.heap.size w'.heap.size w' r0 d0 ∧ Below w.heap.size w w') :
    Calls Try.prog 3 #[.agg #[.int .i64 a0h, .int .i64 a0m], a1v] w fun e w' => e = .returned (.bool true) ∧ Below w.heap.size w w' := by
  have HS := Lib.hid hs
  have HI := Lib.hid hi
  clear hs hi
  have tc1 : (c1 != c1) = false := by simp
  by_cases hg1 : a1x.length ≤ 1048576
  rotate_left
  · obtain ⟨aa, cc, rfl, _, _⟩ := a1r
    go_enter Try.func3, Try.ntmps3
    go_wp2
    go_ret
    exact ⟨rfl, by (repeat (first | (with_reducible assumption) | (with_reducible exact Below.refl _ _) | (with_reducible refine Below.setCell ?_ (by first | (simp; done) | (simp; omega)) _) | (with_reducible refine Below.al ?_ _) | (with_reducible refine Below.dr ?_) | (with_reducible refine Below.drN ?_ _) | (with_reducible refine Below.tr ?_ (by with_reducible assumption))))⟩
  obtain ⟨aa1, cc1, rfl, al1, ac1⟩ := a1r
  have a1r : RdI w (.slice aa1 a1x.length cc1) a1x := ⟨aa1, cc1, rfl, al1, ac1⟩
  clear ac1
  go_enter Try.func3, Try.ntmps3
  go_wp2_with fail
  obtain ⟨W0, hW0⟩ : ∃ W0, W0 = (w.alloc (Obj.cells #[Value.int IntKind.i64 a0h, Value.int IntKind.i64 a0m] 23)) := ⟨_, rfl⟩
  have B0 : Below w.heap.size w W0 := by rw [hW0]; (repeat (first | (with_reducible assumption) | (with_reducible exact Below.refl _ _) | (with_reducible refine Below.setCell ?_ (by first | (simp; done) | (simp; omega)) _) | (with_reducible refine Below.al ?_ _) | (with_reducible refine Below.dr ?_) | (with_reducible refine Below.drN ?_ _) | (with_reducible refine Below.tr ?_ (by with_reducible assumption))))
  have hs0 : w.heap.size + 1 = W0.heap.size := by rw [hW0]; simp
  have k0_0_0 : W0.cell? ⟨w.heap.size, 0, none⟩ = some (.int .i64 a0h) := by rw [hW0]; go_simp
  have k0_1_0 : W0.cell? ⟨w.heap.size, 1, none⟩ = some (.int .i64 a0m) := by rw [hW0]; go_simp
  rw [← hW0]
  have HS0 := Lib.hid hs0
  have hz0 : w.heap.size + 0 < W0.heap.size := by omega
  clear hW0 hs0
  refine (c_laws_toState _ _ _).mono ?_; rintro e W1 ⟨rfl, hb1⟩
  have hs1 := hb1.size
  have B1 : Below w.heap.size w W1 := B0.tr hb1
  have k0_0_1 := keepc hb1 k0_0_0
  have k0_1_1 := keepc hb1 k0_1_0
  clear k0_0_0 k0_1_0
  have hz1 : w.heap.size + 0 < W1.heap.size := by omega
  go_wp2_with fail
  refine (c_laws_toInt64S a1x _ _ (a1r.below B1) (by omega)).mono ?_; rintro e W2 ⟨rfl, ht1, hb2⟩
  have hs2 := hb2.size
  have B2 : Below w.heap.size w W2 := B1.tr hb2
  have k0_0_2 := keepc hb2 k0_0_1
  have k0_1_2 := keepc hb2 k0_1_1
  clear k0_0_1 k0_1_1
  have hz2 : w.heap.size + 0 < W2.heap.size := by omega
  go_wp2_with fail
  refine (HS.out _ _ ⟨(((ht1).ir)).1.rdc, by omega⟩).mono ?_; rintro e W3 ⟨w0, rfl, hw0, hb3⟩
  have hs3 := hb3.size
  have B3 : Below w.heap.size w W3 := B2.tr hb3
  have k0_0_3 := keepc hb3 k0_0_2
  have k0_1_3 := keepc hb3 k0_1_2
  clear k0_0_2 k0_1_2
  have hz3 : w.heap.size + 0 < W3.heap.size := by omega
  go_wp2_with fail
  refine (c_laws_toInt64S a1x _ _ (a1r.below B3) (by omega)).mono ?_; rintro e W4 ⟨rfl, ht2, hb4⟩
  have hs4 := hb4.size
  have B4 : Below w.heap.size w W4 := B3.tr hb4
  have k0_0_4 := keepc hb4 k0_0_3
  have k0_1_4 := keepc hb4 k0_1_3
  clear k0_0_3 k0_1_3
  have hz4 : w.heap.size + 0 < W4.heap.size := by omega
  go_wp2_with fail
  refine (c_laws_toState _ _ _).mono ?_; rintro e W5 ⟨rfl, hb5⟩
  have hs5 := hb5.size
  have B5 : Below w.heap.size w W5 := B4.tr hb5
  have k0_0_5 := keepc hb5 k0_0_4
  have k0_1_5 := keepc hb5 k0_1_4
  clear k0_0_4 k0_1_4
  have hz5 : w.heap.size + 0 < W5.heap.size := by omega
  go_wp2_with fail
  refine (HI.out _ _ ⟨((((ht2).ir).below hb5)).1.rdc, by omega⟩).mono ?_; rintro e W6 ⟨g0, rfl, hg0, hb6⟩
  have hs6 := hb6.size
  have B6 : Below w.heap.size w W6 := B5.tr hb6
  have k0_0_6 := keepc hb6 k0_0_5
  have k0_1_6 := keepc hb6 k0_1_5
  clear k0_0_5 k0_1_5
  have hz6 : w.heap.size + 0 < W6.heap.size := by omega
  go_wp2_with fail
  refine (c_laws_eqStringS d0 _ _ _ (OwnRow.rd rowT_len (hg0)) (OwnRow.rd rowT_len ((((hw0).below hb4).below hb5).below hb6))).mono ?_; rintro e W7 ⟨rfl, hb7⟩
  have hs7 := hb7.size
  have B7 : Below w.heap.size w W7 := B6.tr hb7
  have k0_0_7 := keepc hb7 k0_0_6
  have k0_1_7 := keepc hb7 k0_1_6
  clear k0_0_6 k0_1_6
  have hz7 : w.heap.size + 0 < W7.heap.size := by omega
  go_wp2_with fail
  refine (c_laws_toInt64S a1x _ _ (a1r.below B7) (by omega)).mono ?_; rintro e W8 ⟨rfl, ht3, hb8⟩
  have hs8 := hb8.size
  have B8 : Below w.heap.size w W8 := B7.tr hb8
  have k0_0_8 := keepc hb8 k0_0_7
  have k0_1_8 := keepc hb8 k0_1_7
  clear k0_0_7 k0_1_7
  have hz8 : w.heap.size + 0 < W8.heap.size := by omega
  go_wp2_with fail
  refine (c_laws_eqInt64S a1x a1x _ _ _ (((((((ht2).ir).below hb5).below hb6).below hb7).below hb8)).rd (((ht3).ir)).rd).mono ?_; rintro e W9 ⟨rfl, hb9⟩
  have hs9 := hb9.size
  have B9 : Below w.heap.size w W9 := B8.tr hb9
  have k0_0_9 := keepc hb9 k0_0_8
  have k0_1_9 := keepc hb9 k0_1_8
  clear k0_0_8 k0_1_8
  have hz9 : w.heap.size + 0 < W9.heap.size := by omega
  go_wp2_with fail
  refine (m_Int64S W3.heap.size W4.heap.size a1x 1 _ _ (((((((ht2).ir).below hb5).below hb6).below hb7).below hb8).below hb9) (by omega) (by omega)).mono ?_; rintro e W10 ⟨rfl, hm10, hu10⟩
  have hs10 := hu10.size
  have B10 : Below w.heap.size w W10 := B9.trans (hu10.below (by omega) (by omega))
  have k0_0_10 := (hu10.cell (w.heap.size) 0 (Or.inl (by omega)) (by omega)).trans k0_0_9
  have k0_1_10 := (hu10.cell (w.heap.size) 1 (Or.inl (by omega)) (by omega)).trans k0_1_9
  clear k0_0_9 k0_1_9
  have hz10 : w.heap.size + 0 < W10.heap.size := by omega
  have hv10 : 0 ≤ (1 + ((a1x).length : Int)) := by omega
  have tk : ¬ ((1 + ((a1x).length : Int)) < 0) := by omega
  go_wp2_with fail
  refine (c_laws_eqStringS d0 _ _ _ (OwnRow.rd rowT_len (((((hg0).below hb7).below hb8).below hb9).upd hu10 (by omega))) (OwnRow.rd rowT_len ((((((((hw0).below hb4).below hb5).below hb6).below hb7).below hb8).below hb9).upd hu10 (by omega)))).mono ?_; rintro e W11 ⟨rfl, hb11⟩
  have hs11 := hb11.size
  have B11 : Below w.heap.size w W11 := B10.tr hb11
  have k0_0_11 := keepc hb11 k0_0_10
  have k0_1_11 := keepc hb11 k0_1_10
  clear k0_0_10 k0_1_10
  have hz11 : w.heap.size + 0 < W11.heap.size := by omega
  go_wp2_with fail
  refine (c_laws_markStringSI W5.heap.size W6.heap.size d0 1 _ _ ((((((hg0).below hb7).below hb8).below hb9).upd hu10 (by omega)).below hb11) (by omega) (by omega) (by omega)).mono ?_; rintro e W12 ⟨rfl, hm12, hu12⟩
  have hs12 := hu12.size
  have B12 : Below w.heap.size w W12 := B11.trans (hu12.below (by omega) (by omega))
  have k0_0_12 := (hu12.cell (w.heap.size) 0 (Or.inl (by omega)) (by omega)).trans k0_0_11
  have k0_1_12 := (hu12.cell (w.heap.size) 1 (Or.inl (by omega)) (by omega)).trans k0_1_11
  clear k0_0_11 k0_1_11
  have hz12 : w.heap.size + 0 < W12.heap.size := by omega
  have hv12 : 0 ≤ (1 + ((d0).length : Int)) := by omega
  go_wp2_with fail
  refine (c_laws_heldStringSI (d0).length 1 _ _ (OwnRow.rd rowT_len hm12) (by omega) (by omega)).mono ?_; rintro e W13 ⟨rfl, hb13⟩
  have hs13 := hb13.size
  have B13 : Below w.heap.size w W13 := B12.tr hb13
  have k0_0_13 := keepc hb13 k0_0_12
  have k0_1_13 := keepc hb13 k0_1_12
  clear k0_0_12 k0_1_12
  have hz13 : w.heap.size + 0 < W13.heap.size := by omega
  have tn20 : ¬ ((1 + ((d0).length : Int)) < 0) := by omega
  have te20 : ((1 + ((d0).length : Int)) != (1 + ((d0).length : Int))) = false := by simp
  go_wp2_with fail
  refine (c_laws_toState _ _ _).mono ?_; rintro e W14 ⟨rfl, hb14⟩
  have hs14 := hb14.size
  have B14 : Below w.heap.size w W14 := B13.tr hb14
  have k0_0_14 := keepc hb14 k0_0_13
  have k0_1_14 := keepc hb14 k0_1_13
  clear k0_0_13 k0_1_13
  have hz14 : w.heap.size + 0 < W14.heap.size := by omega
  go_wp2_with fail
  refine (c_laws_toInt64S a1x _ _ (a1r.below B14) (by omega)).mono ?_; rintro e W15 ⟨rfl, ht4, hb15⟩
  have hs15 := hb15.size
  have B15 : Below w.heap.size w W15 := B14.tr hb15
  have k0_0_15 := keepc hb15 k0_0_14
  have k0_1_15 := keepc hb15 k0_1_14
  clear k0_0_14 k0_1_14
  have hz15 : w.heap.size + 0 < W15.heap.size := by omega
  go_wp2_with fail
  refine (HI.out _ _ ⟨(((ht4).ir)).1.rdc, by omega⟩).mono ?_; rintro e W16 ⟨h0, rfl, hh0, hb16⟩
  have hs16 := hb16.size
  have B16 : Below w.heap.size w W16 := B15.tr hb16
  have k0_0_16 := keepc hb16 k0_0_15
  have k0_1_16 := keepc hb16 k0_1_15
  clear k0_0_15 k0_1_15
  have hz16 : w.heap.size + 0 < W16.heap.size := by omega
  go_wp2_with fail
  refine (c_laws_eqStringS d0 _ _ _ (OwnRow.rd rowT_len (hh0)) (OwnRow.rd rowT_len ((((((((((((((hw0).below hb4).below hb5).below hb6).below hb7).below hb8).below hb9).upd hu10 (by omega)).below hb11).upd hu12 (by omega)).below hb13).below hb14).below hb15).below hb16))).mono ?_; rintro e W17 ⟨rfl, hb17⟩
  have hs17 := hb17.size
  have B17 : Below w.heap.size w W17 := B16.tr hb17
  have k0_0_17 := keepc hb17 k0_0_16
  have k0_1_17 := keepc hb17 k0_1_16
  clear k0_0_16 k0_1_16
  have hz17 : w.heap.size + 0 < W17.heap.size := by omega
  go_wp2_with fail
  refine (c_laws_heldStringSI (d0).length 1 _ _ (OwnRow.rd rowT_len (((((hm12.below hb13).below hb14).below hb15).below hb16).below hb17)) (by omega) (by omega)).mono ?_; rintro e W18 ⟨rfl, hb18⟩
  have hs18 := hb18.size
  have B18 : Below w.heap.size w W18 := B17.tr hb18
  have k0_0_18 := keepc hb18 k0_0_17
  have k0_1_18 := keepc hb18 k0_1_17
  clear k0_0_17 k0_1_17
  have hz18 : w.heap.size + 0 < W18.heap.size := by omega
  have tn32 : ¬ ((1 + ((d0).length : Int)) < 0) := by omega
  have te32 : ((1 + ((d0).length : Int)) != (1 + ((d0).length : Int))) = false := by simp
  go_wp2
  go_ret
  exact ⟨rfl, B18⟩
theorem walk (v0 v1 : Value) (w : World) (a0 : Arg_State w v0) (a1 : Arg_ints w v1) : Calls Try.prog 3 #[v0, v1] w fun e w' => e = .returned (.bool true) ∧ Below w.heap.size w w' := by
  obtain ⟨h, m, rfl⟩ := a0
  obtain ⟨xs, hx⟩ := a1
  exact walk_gen w h m xs v1 hx _ _ (linL_len h m xs) (fun w u hu => c_spec_LinesOf h m xs u w hu.1 hu.2) (fun w u hu => c_impl_LinesOf h m xs u w hu.1 hu.2)
theorem own : ownKnob Try.prog.godebug = none := by kernel_rfl
theorem laidOut : laidOutB Try.prog = true := by kernel_rfl
set_option maxRecDepth 100000 in
theorem lifted (os : Os) (started : os.Started) (H : Type) (enc : TypeId × Value → H) :
    ReturnsInHanded {} Try.checked os 3 .any (Rows.fnExactLinesOfSpec.pre6 enc Try.prog Try.f3 Rows.fnExactLinesOfRow.domain false) (Rows.fnExactLinesOfSpec.post enc Try.prog Try.f3 false true false false) := by
  refine returnsInHanded_of_change (C := Try.checked) own started (by kernel_rfl) Try.func3
    (ChangeSpec.witness6 (enc := enc) (C := Try.checked) false ⟨#[], #[.agg #[.int .i64 0, .int .i64 0], .slice none 0 0], []⟩ 8 (by kernel_rfl) (by kernel_rfl) (by kernel_rfl) (by kernel_rfl)) ?_
  intro W base args ds gs before hval0 hW hcnd _
  have hval : ∀ (j : Nat) t v, Try.f3.params[j]? = some t → args[j]? = some v → Value.okWide Try.prog W .any base t v := hval0
  have hW' := hW
  obtain ⟨p, q, hA0, hV, rfl, hfz, hnd⟩ := hW
  have hA : DataW.TrodAll enc Try.prog W 0 (fun _ => true) true Try.f3.params.toList args.toList ds p := hA0
  rw [Try.params3] at hA hval
  obtain ⟨v0, vs0, d0, ds0, p0, q0, hargs, rfl, rfl, h0, r0⟩ := trodAll_cons hA
  obtain ⟨v1, vs1, d1, ds1, p1, q1, rfl, rfl, rfl, h1, r1⟩ := trodAll_cons r0
  obtain ⟨rfl, rfl, rfl⟩ := trodAll_nil r1
  obtain rfl : args = #[v0, v1] := by cases args; simp_all
  obtain ⟨rfl, rfl⟩ := trodVars_none hV
  have k0 := h0
  have lt0 : ∀ x ∈ p0, x.block < W.heap.size := by obtain ⟨m, hm⟩ := k0; exact DataW.trod_lt m _ _ _ hm
  have a0 := open_State (hval 0 23 v0 rfl rfl) h0
  have k1 := h1
  have lt1 : ∀ x ∈ p1, x.block < W.heap.size := by obtain ⟨m, hm⟩ := k1; exact DataW.trod_lt m _ _ _ hm
  have a1 := open_intsArg (hval 1 24 v1 rfl rfl) h1
  clear hA0 hval0
  refine (walk v0 v1 W a0 a1).mono fun e W' ⟨he, bel⟩ => ?_
  subst he
  exact ⟨_, rfl, _, _, _, [], _, [], hW', trodAll_mk1 (shut_bool Try.underlying4 _), (trodAll_cons_mk (Below.trod laidOut (by kernel_rfl) (of_decide_eq_true (by kernel_rfl)) k0 bel lt0) (trodAll_cons_mk (Below.trod laidOut (by kernel_rfl) (of_decide_eq_true (by kernel_rfl)) k1 bel lt1) trodAll_mk0)), rfl, bel.frame _, fun h => by cases h⟩
theorem over : Rows.fnExactLinesOfRow.holds Try.pinned (OpenSpec.ofChange Rows.fnExactLinesOfSpec) :=
  OpenClaim.holds_of_wide 3 Try.f3 rfl rfl rfl rfl rfl rfl rfl ⟨rfl, rfl, rfl, rfl, rfl⟩ rfl rfl rfl rfl rfl (by kernel_rfl) Try.func3 (by kernel_rfl)
    (of_decide_eq_true (by kernel_rfl)) (by unfold Func.isWrapper; first | (rw [if_pos (by decide +kernel)]; kernel_rfl) | (rw [if_neg (by decide +kernel)]; exact ⟨rfl, rfl⟩))
    (fun os started H enc _ => lifted os started H enc)
theorem proved : Rows.FnExactLinesOfSaid := over
end fnExactLinesOf
end Go.Proofs.Ytddfdppoclnpcaa
