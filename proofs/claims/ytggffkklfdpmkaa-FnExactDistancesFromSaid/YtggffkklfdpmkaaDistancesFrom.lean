/- The law FnExactDistancesFrom returns true for all states. No condition. -/
import Derived.Test.YtggffkklfdpmkaaDist
import Derived.Test.YtggffkklfdpmkaaLawC
namespace Go.Proofs.Ytggffkklfdpmkaa
open Go.ChangeShapes Go.WideShapes Go.ChangeAt Go.RowKit
set_option linter.unusedVariables false
theorem distX_len (h m : Int) : (distX h m).length ≤ 1000000 := by
  cases hv : validB h m
  · unfold distX; rw [hv]; simp
  · have h1 := maskL_len (popI m) h (valid_iff hv).1
    unfold distX
    rw [hv, cond_true, distL_len]
    omega
namespace fnExactDistancesFrom
set_option maxHeartbeats 4000000 in
theorem walk_gen (w : World) (a0h a0m : Int) (d0 : List Int) (c1 : Int) (hd0 : (d0).length ≤ 1000000)
    (hs : ∀ (w : World), Calls Try.prog 35 #[.agg #[.int .i64 a0h, .int .i64 a0m]] w fun e w' => ∃ r0, e = .returned (.tuple #[r0, .int .i64 c1]) ∧ OwnI1 w.heap.size w' r0 d0 ∧ Below w.heap.size w w')
    (hi : ∀ (w : World), Calls Try.prog 36 #[.agg #[.int .i64 a0h, .int .i64 a0m]] w fun e w' => ∃ r0, e = .returned (.tuple #[r0, .int .i64 c1]) ∧ OwnI1 w.heap.size w' r0 d0 ∧ Below w.heap.size w w') :
    Calls Try.prog 8 #[.agg #[.int .i64 a0h, .int .i64 a0m]] w fun e w' => e = .returned (.bool true) ∧ Below w.heap.size w w' := by
  have HS := Lib.hid hs
  have HI := Lib.hid hi
  clear hs hi
  have tc1 : (c1 != c1) = false := by simp
  go_enter Try.func8, Try.ntmps8
  go_wp2_with fail
  obtain ⟨W0, hW0⟩ : ∃ W0, W0 = (w.alloc (Obj.cells #[Value.int IntKind.i64 a0h, Value.int IntKind.i64 a0m] 43)) := ⟨_, rfl⟩
  have B0 : Below w.heap.size w W0 := by rw [hW0]; (repeat (first | (with_reducible assumption) | (with_reducible exact Below.refl _ _) | (with_reducible refine Below.setCell ?_ (by first | (simp; done) | (simp; omega)) _) | (with_reducible refine Below.al ?_ _) | (with_reducible refine Below.dr ?_) | (with_reducible refine Below.drN ?_ _) | (with_reducible refine Below.tr ?_ (by with_reducible assumption))))
  have hs0 : w.heap.size + 1 = W0.heap.size := by rw [hW0]; simp
  have k0_0_0 : W0.cell? ⟨w.heap.size, 0, none⟩ = some (.int .i64 a0h) := by rw [hW0]; go_simp
  have k0_1_0 : W0.cell? ⟨w.heap.size, 1, none⟩ = some (.int .i64 a0m) := by rw [hW0]; go_simp
  rw [← hW0]
  have HS0 := Lib.hid hs0
  have hz0 : w.heap.size + 0 < W0.heap.size := by omega
  clear hW0 hs0
  refine (c_laws_toState _ _ _).mono ?_; rintro e W1 ⟨rfl, hb1⟩
  have hs1 := hb1.size
  have B1 : Below w.heap.size w W1 := B0.tr hb1
  have k0_0_1 := (hb1.cell (p := ⟨w.heap.size, 0, none⟩) (by show _ < _; omega)).trans k0_0_0
  have k0_1_1 := (hb1.cell (p := ⟨w.heap.size, 1, none⟩) (by show _ < _; omega)).trans k0_1_0
  clear k0_0_0 k0_1_0
  have hz1 : w.heap.size + 0 < W1.heap.size := by omega
  go_wp2_with fail
  refine (HS.out _).mono ?_; rintro e W2 ⟨w0, rfl, hw0, hb2⟩
  have hs2 := hb2.size
  have B2 : Below w.heap.size w W2 := B1.tr hb2
  have k0_0_2 := (hb2.cell (p := ⟨w.heap.size, 0, none⟩) (by show _ < _; omega)).trans k0_0_1
  have k0_1_2 := (hb2.cell (p := ⟨w.heap.size, 1, none⟩) (by show _ < _; omega)).trans k0_1_1
  clear k0_0_1 k0_1_1
  have hz2 : w.heap.size + 0 < W2.heap.size := by omega
  go_wp2_with fail
  refine (c_laws_toState _ _ _).mono ?_; rintro e W3 ⟨rfl, hb3⟩
  have hs3 := hb3.size
  have B3 : Below w.heap.size w W3 := B2.tr hb3
  have k0_0_3 := (hb3.cell (p := ⟨w.heap.size, 0, none⟩) (by show _ < _; omega)).trans k0_0_2
  have k0_1_3 := (hb3.cell (p := ⟨w.heap.size, 1, none⟩) (by show _ < _; omega)).trans k0_1_2
  clear k0_0_2 k0_1_2
  have hz3 : w.heap.size + 0 < W3.heap.size := by omega
  go_wp2_with fail
  refine (HI.out _).mono ?_; rintro e W4 ⟨g0, rfl, hg0, hb4⟩
  have hs4 := hb4.size
  have B4 : Below w.heap.size w W4 := B3.tr hb4
  have k0_0_4 := (hb4.cell (p := ⟨w.heap.size, 0, none⟩) (by show _ < _; omega)).trans k0_0_3
  have k0_1_4 := (hb4.cell (p := ⟨w.heap.size, 1, none⟩) (by show _ < _; omega)).trans k0_1_3
  clear k0_0_3 k0_1_3
  have hz4 : w.heap.size + 0 < W4.heap.size := by omega
  go_wp2_with fail
  refine (c_laws_eqInt64S d0 d0 _ _ _ (((hg0).ir)).rd (((((hw0).ir).below hb3).below hb4)).rd).mono ?_; rintro e W5 ⟨rfl, hb5⟩
  have hs5 := hb5.size
  have B5 : Below w.heap.size w W5 := B4.tr hb5
  have k0_0_5 := (hb5.cell (p := ⟨w.heap.size, 0, none⟩) (by show _ < _; omega)).trans k0_0_4
  have k0_1_5 := (hb5.cell (p := ⟨w.heap.size, 1, none⟩) (by show _ < _; omega)).trans k0_1_4
  clear k0_0_4 k0_1_4
  have hz5 : w.heap.size + 0 < W5.heap.size := by omega
  go_wp2_with fail
  refine (m_Int64S W3.heap.size W4.heap.size d0 1 _ _ (((hg0).ir).below hb5) (by omega) (by omega)).mono ?_; rintro e W6 ⟨rfl, hm6, hu6⟩
  have hs6 := hu6.size
  have B6 : Below w.heap.size w W6 := B5.trans (hu6.below (by omega) (by omega))
  have k0_0_6 := (hu6.cell (w.heap.size) 0 (Or.inl (by omega)) (by omega)).trans k0_0_5
  have k0_1_6 := (hu6.cell (w.heap.size) 1 (Or.inl (by omega)) (by omega)).trans k0_1_5
  clear k0_0_5 k0_1_5
  have hz6 : w.heap.size + 0 < W6.heap.size := by omega
  have hv6 : 0 ≤ (1 + ((d0).length : Int)) := by omega
  go_wp2_with fail
  refine (c_laws_heldInt64S (d0).length 1 _ _ (hm6).rd (by omega) (by omega)).mono ?_; rintro e Wp ⟨rfl, rfl⟩
  have tn8 : ¬ ((1 + ((d0).length : Int)) < 0) := by omega
  have te8 : ((1 + ((d0).length : Int)) != (1 + ((d0).length : Int))) = false := by simp
  go_wp2_with fail
  refine (c_laws_toState _ _ _).mono ?_; rintro e W7 ⟨rfl, hb7⟩
  have hs7 := hb7.size
  have B7 : Below w.heap.size w W7 := B6.tr hb7
  have k0_0_7 := (hb7.cell (p := ⟨w.heap.size, 0, none⟩) (by show _ < _; omega)).trans k0_0_6
  have k0_1_7 := (hb7.cell (p := ⟨w.heap.size, 1, none⟩) (by show _ < _; omega)).trans k0_1_6
  clear k0_0_6 k0_1_6
  have hz7 : w.heap.size + 0 < W7.heap.size := by omega
  go_wp2_with fail
  refine (HI.out _).mono ?_; rintro e W8 ⟨h0, rfl, hh0, hb8⟩
  have hs8 := hb8.size
  have B8 : Below w.heap.size w W8 := B7.tr hb8
  have k0_0_8 := (hb8.cell (p := ⟨w.heap.size, 0, none⟩) (by show _ < _; omega)).trans k0_0_7
  have k0_1_8 := (hb8.cell (p := ⟨w.heap.size, 1, none⟩) (by show _ < _; omega)).trans k0_1_7
  clear k0_0_7 k0_1_7
  have hz8 : w.heap.size + 0 < W8.heap.size := by omega
  go_wp2_with fail
  refine (c_laws_eqInt64S d0 d0 _ _ _ (((hh0).ir)).rd (((((((((hw0).ir).below hb3).below hb4).below hb5).upd hu6 (by omega)).below hb7).below hb8)).rd).mono ?_; rintro e W9 ⟨rfl, hb9⟩
  have hs9 := hb9.size
  have B9 : Below w.heap.size w W9 := B8.tr hb9
  have k0_0_9 := (hb9.cell (p := ⟨w.heap.size, 0, none⟩) (by show _ < _; omega)).trans k0_0_8
  have k0_1_9 := (hb9.cell (p := ⟨w.heap.size, 1, none⟩) (by show _ < _; omega)).trans k0_1_8
  clear k0_0_8 k0_1_8
  have hz9 : w.heap.size + 0 < W9.heap.size := by omega
  go_wp2_with fail
  refine (c_laws_heldInt64S (d0).length 1 _ _ ((((hm6.below hb7).below hb8).below hb9)).rd (by omega) (by omega)).mono ?_; rintro e Wp ⟨rfl, rfl⟩
  have tn20 : ¬ ((1 + ((d0).length : Int)) < 0) := by omega
  have te20 : ((1 + ((d0).length : Int)) != (1 + ((d0).length : Int))) = false := by simp
  go_wp2
  go_ret
  exact ⟨rfl, B9⟩
theorem walk (v0 : Value) (w : World) (a0 : Arg_State w v0) : Calls Try.prog 8 #[v0] w fun e w' => e = .returned (.bool true) ∧ Below w.heap.size w w' := by
  obtain ⟨h, m, rfl⟩ := a0
  exact walk_gen w h m _ _ (distX_len h m) (fun w => c_spec_DistancesFrom h m w) (fun w => c_impl_DistancesFrom h m w)
theorem own : ownKnob Try.prog.godebug = none := by kernel_rfl
theorem laidOut : laidOutB Try.prog = true := by kernel_rfl
set_option maxRecDepth 100000 in
theorem lifted (os : Os) (started : os.Started) (H : Type) (enc : TypeId × Value → H) :
    ReturnsInHanded {} Try.checked os 8 .any (Rows.fnExactDistancesFromSpec.pre6 enc Try.prog Try.f8 Rows.fnExactDistancesFromRow.domain false) (Rows.fnExactDistancesFromSpec.post enc Try.prog Try.f8 false true false false) := by
  refine returnsInHanded_of_change (C := Try.checked) own started (by kernel_rfl) Try.func8
    (ChangeSpec.witness6 (enc := enc) (C := Try.checked) false ⟨#[], #[.agg #[.int .i64 0, .int .i64 0]], []⟩ 8 (by kernel_rfl) (by kernel_rfl) (by kernel_rfl) (by kernel_rfl)) ?_
  intro W base args ds gs before hval0 hW hcnd _
  have hval : ∀ (j : Nat) t v, Try.f8.params[j]? = some t → args[j]? = some v → Value.okWide Try.prog W .any base t v := hval0
  have hW' := hW
  obtain ⟨p, q, hA0, hV, rfl, hfz, hnd⟩ := hW
  have hA : DataW.TrodAll enc Try.prog W 0 (fun _ => true) true Try.f8.params.toList args.toList ds p := hA0
  rw [Try.params8] at hA hval
  obtain ⟨v0, vs0, d0, ds0, p0, q0, hargs, rfl, rfl, h0, r0⟩ := trodAll_cons hA
  obtain ⟨rfl, rfl, rfl⟩ := trodAll_nil r0
  obtain rfl : args = #[v0] := by cases args; simp_all
  obtain ⟨rfl, rfl⟩ := trodVars_none hV
  have k0 := h0
  have lt0 : ∀ x ∈ p0, x.block < W.heap.size := by obtain ⟨m, hm⟩ := k0; exact DataW.trod_lt m _ _ _ hm
  have a0 := open_State (hval 0 43 v0 rfl rfl) h0
  clear hA0 hval0
  refine (walk v0 W a0).mono fun e W' ⟨he, bel⟩ => ?_
  subst he
  exact ⟨_, rfl, _, _, _, [], _, [], hW', trodAll_mk1 (shut_bool Try.underlying4 _), (trodAll_cons_mk (Below.trod laidOut (by kernel_rfl) (of_decide_eq_true (by kernel_rfl)) k0 bel lt0) trodAll_mk0), rfl, bel.frame _, fun h => by cases h⟩
theorem over : Rows.fnExactDistancesFromRow.holds Try.pinned (OpenSpec.ofChange Rows.fnExactDistancesFromSpec) :=
  OpenClaim.holds_of_wide 8 Try.f8 rfl rfl rfl rfl rfl rfl rfl ⟨rfl, rfl, rfl, rfl, rfl⟩ rfl rfl rfl rfl rfl (by kernel_rfl) Try.func8 (by kernel_rfl)
    (of_decide_eq_true (by kernel_rfl)) (by unfold Func.isWrapper; first | (rw [if_pos (by decide +kernel)]; kernel_rfl) | (rw [if_neg (by decide +kernel)]; exact ⟨rfl, rfl⟩))
    (fun os started H enc _ => lifted os started H enc)
theorem proved : Rows.FnExactDistancesFromSaid := over
end fnExactDistancesFrom
end Go.Proofs.Ytggffkklfdpmkaa
