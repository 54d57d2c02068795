/- The law FnExactCountShortest returns true for all states. No condition. -/
import Derived.Test.YtggffkklfdpmkaaCountS
import Derived.Test.YtggffkklfdpmkaaLawC
namespace Go.Proofs.Ytggffkklfdpmkaa
open Go.ChangeShapes Go.WideShapes Go.ChangeAt Go.RowKit
set_option linter.unusedVariables false
namespace fnExactCountShortest
set_option maxHeartbeats 4000000 in
theorem walk_gen (w : World) (a0h a0m : Int) (a1h a1m : Int) (c0 : Int) (c1 : Int) 
    (hs : ∀ (w : World), Calls Try.prog 41 #[.agg #[.int .i64 a0h, .int .i64 a0m], .agg #[.int .i64 a1h, .int .i64 a1m]] w fun e w' => e = .returned (.tuple #[.int .i64 c0, .int .i64 c1]) ∧ Below w.heap.size w w')
    (hi : ∀ (w : World), Calls Try.prog 42 #[.agg #[.int .i64 a0h, .int .i64 a0m], .agg #[.int .i64 a1h, .int .i64 a1m]] w fun e w' => e = .returned (.tuple #[.int .i64 c0, .int .i64 c1]) ∧ Below w.heap.size w w') :
    Calls Try.prog 10 #[.agg #[.int .i64 a0h, .int .i64 a0m], .agg #[.int .i64 a1h, .int .i64 a1m]] w fun e w' => e = .returned (.bool true) ∧ Below w.heap.size w w' := by
  have HS := Lib.hid hs
  have HI := Lib.hid hi
  clear hs hi
  have tc0 : (c0 != c0) = false := by simp
  have tc1 : (c1 != c1) = false := by simp
  go_enter Try.func10, Try.ntmps10
  go_wp2_with fail
  obtain ⟨W0, hW0⟩ : ∃ W0, W0 = ((w.alloc (Obj.cells #[Value.int IntKind.i64 a0h, Value.int IntKind.i64 a0m] 43)).alloc (Obj.cells #[Value.int IntKind.i64 a1h, Value.int IntKind.i64 a1m] 43)) := ⟨_, rfl⟩
  have B0 : Below w.heap.size w W0 := by rw [hW0]; (repeat (first | (with_reducible assumption) | (with_reducible exact Below.refl _ _) | (with_reducible refine Below.setCell ?_ (by first | (simp; done) | (simp; omega)) _) | (with_reducible refine Below.al ?_ _) | (with_reducible refine Below.dr ?_) | (with_reducible refine Below.drN ?_ _) | (with_reducible refine Below.tr ?_ (by with_reducible assumption))))
  have hs0 : w.heap.size + 2 = W0.heap.size := by rw [hW0]; simp
  have k0_0_0 : W0.cell? ⟨w.heap.size, 0, none⟩ = some (.int .i64 a0h) := by rw [hW0]; go_simp
  have k0_1_0 : W0.cell? ⟨w.heap.size, 1, none⟩ = some (.int .i64 a0m) := by rw [hW0]; go_simp
  have k1_0_0 : W0.cell? ⟨w.heap.size + 1, 0, none⟩ = some (.int .i64 a1h) := by rw [hW0]; go_simp
  have k1_1_0 : W0.cell? ⟨w.heap.size + 1, 1, none⟩ = some (.int .i64 a1m) := by rw [hW0]; go_simp
  rw [← hW0]
  have HS0 := Lib.hid hs0
  have hz0 : w.heap.size + 1 < W0.heap.size := by omega
  clear hW0 hs0
  have BP : Below W0.heap.size W0 W0 := Below.refl _ _
  have k0_0_q := k0_0_0
  have k0_1_q := k0_1_0
  have k1_0_q := k1_0_0
  have k1_1_q := k1_1_0
  go_region_held3 (fun w' => w'.cell? ⟨w.heap.size, 0, none⟩ = some (.int .i64 a0h) ∧ w'.cell? ⟨w.heap.size, 1, none⟩ = some (.int .i64 a0m) ∧ w'.cell? ⟨w.heap.size + 1, 0, none⟩ = some (.int .i64 a1h) ∧ w'.cell? ⟨w.heap.size + 1, 1, none⟩ = some (.int .i64 a1m))
    (go_keep)
    (first
      | ((go_at_call 27; refine (c_laws_toState _ _ _).mono ?_; rintro e Wq ⟨rfl, hq⟩; first | (have hq := below_drew hq; have k0_0_q := keepc hq k0_0_q; have k0_1_q := keepc hq k0_1_q; have k1_0_q := keepc hq k1_0_q; have k1_1_q := keepc hq k1_1_q; have BP := Below.tr BP hq) | (have k0_0_q := keepc hq k0_0_q; have k0_1_q := keepc hq k0_1_q; have k1_0_q := keepc hq k1_0_q; have k1_1_q := keepc hq k1_1_q; have BP := Below.tr BP hq)))
      | ((go_at_call 41; have hsq1 := BP.size; refine (HS.out _).mono ?_; rintro e W1 ⟨rfl, hq⟩; have k0_0_1 := keepc hq k0_0_q; have k0_1_1 := keepc hq k0_1_q; have k1_0_1 := keepc hq k1_0_q; have k1_1_1 := keepc hq k1_1_q; have hb1 := Below.tr BP hq)))
  have hs1 := hb1.size
  have B1 : Below w.heap.size w W1 := B0.tr hb1
  have hz1 : w.heap.size + 1 < W1.heap.size := by omega
  go_wp2_with fail
  have BP : Below W1.heap.size W1 W1 := Below.refl _ _
  have k0_0_q := k0_0_1
  have k0_1_q := k0_1_1
  have k1_0_q := k1_0_1
  have k1_1_q := k1_1_1
  go_region_held3 (fun w' => w'.cell? ⟨w.heap.size, 0, none⟩ = some (.int .i64 a0h) ∧ w'.cell? ⟨w.heap.size, 1, none⟩ = some (.int .i64 a0m) ∧ w'.cell? ⟨w.heap.size + 1, 0, none⟩ = some (.int .i64 a1h) ∧ w'.cell? ⟨w.heap.size + 1, 1, none⟩ = some (.int .i64 a1m))
    (go_keep)
    (first
      | ((go_at_call 27; refine (c_laws_toState _ _ _).mono ?_; rintro e Wq ⟨rfl, hq⟩; first | (have hq := below_drew hq; have k0_0_q := keepc hq k0_0_q; have k0_1_q := keepc hq k0_1_q; have k1_0_q := keepc hq k1_0_q; have k1_1_q := keepc hq k1_1_q; have BP := Below.tr BP hq) | (have k0_0_q := keepc hq k0_0_q; have k0_1_q := keepc hq k0_1_q; have k1_0_q := keepc hq k1_0_q; have k1_1_q := keepc hq k1_1_q; have BP := Below.tr BP hq)))
      | ((go_at_call 42; have hsq2 := BP.size; refine (HI.out _).mono ?_; rintro e W2 ⟨rfl, hq⟩; have k0_0_2 := keepc hq k0_0_q; have k0_1_2 := keepc hq k0_1_q; have k1_0_2 := keepc hq k1_0_q; have k1_1_2 := keepc hq k1_1_q; have hb2 := Below.tr BP hq)))
  have hs2 := hb2.size
  have B2 : Below w.heap.size w W2 := B1.tr hb2
  have hz2 : w.heap.size + 1 < W2.heap.size := by omega
  go_wp2
  go_ret
  exact ⟨rfl, B2⟩
theorem walk (v0 v1 : Value) (w : World) (a0 : Arg_State w v0) (a1 : Arg_State w v1) : Calls Try.prog 10 #[v0, v1] w fun e w' => e = .returned (.bool true) ∧ Below w.heap.size w w' := by
  obtain ⟨h, m, rfl⟩ := a0
  obtain ⟨h2, m2, rfl⟩ := a1
  exact walk_gen w h m h2 m2 _ _ (fun w => c_spec_CountShortest h m h2 m2 w) (fun w => c_impl_CountShortest h m h2 m2 w)
theorem own : ownKnob Try.prog.godebug = none := by kernel_rfl
theorem laidOut : laidOutB Try.prog = true := by kernel_rfl
set_option maxRecDepth 100000 in
theorem lifted (os : Os) (started : os.Started) (H : Type) (enc : TypeId × Value → H) :
    ReturnsInHanded {} Try.checked os 10 .any (Rows.fnExactCountShortestSpec.pre6 enc Try.prog Try.f10 Rows.fnExactCountShortestRow.domain false) (Rows.fnExactCountShortestSpec.post enc Try.prog Try.f10 false true false false) := by
  refine returnsInHanded_of_change (C := Try.checked) own started (by kernel_rfl) Try.func10
    (ChangeSpec.witness6 (enc := enc) (C := Try.checked) false ⟨#[], #[.agg #[.int .i64 0, .int .i64 0], .agg #[.int .i64 0, .int .i64 0]], []⟩ 8 (by kernel_rfl) (by kernel_rfl) (by kernel_rfl) (by kernel_rfl)) ?_
  intro W base args ds gs before hval0 hW hcnd _
  have hval : ∀ (j : Nat) t v, Try.f10.params[j]? = some t → args[j]? = some v → Value.okWide Try.prog W .any base t v := hval0
  have hW' := hW
  obtain ⟨p, q, hA0, hV, rfl, hfz, hnd⟩ := hW
  have hA : DataW.TrodAll enc Try.prog W 0 (fun _ => true) true Try.f10.params.toList args.toList ds p := hA0
  rw [Try.params10] at hA hval
  obtain ⟨v0, vs0, d0, ds0, p0, q0, hargs, rfl, rfl, h0, r0⟩ := trodAll_cons hA
  obtain ⟨v1, vs1, d1, ds1, p1, q1, rfl, rfl, rfl, h1, r1⟩ := trodAll_cons r0
  obtain ⟨rfl, rfl, rfl⟩ := trodAll_nil r1
  obtain rfl : args = #[v0, v1] := by cases args; simp_all
  obtain ⟨rfl, rfl⟩ := trodVars_none hV
  have k0 := h0
  have lt0 : ∀ x ∈ p0, x.block < W.heap.size := by obtain ⟨m, hm⟩ := k0; exact DataW.trod_lt m _ _ _ hm
  have a0 := open_State (hval 0 43 v0 rfl rfl) h0
  have k1 := h1
  have lt1 : ∀ x ∈ p1, x.block < W.heap.size := by obtain ⟨m, hm⟩ := k1; exact DataW.trod_lt m _ _ _ hm
  have a1 := open_State (hval 1 43 v1 rfl rfl) h1
  clear hA0 hval0
  refine (walk v0 v1 W a0 a1).mono fun e W' ⟨he, bel⟩ => ?_
  subst he
  exact ⟨_, rfl, _, _, _, [], _, [], hW', trodAll_mk1 (shut_bool Try.underlying4 _), (trodAll_cons_mk (Below.trod laidOut (by kernel_rfl) (of_decide_eq_true (by kernel_rfl)) k0 bel lt0) (trodAll_cons_mk (Below.trod laidOut (by kernel_rfl) (of_decide_eq_true (by kernel_rfl)) k1 bel lt1) trodAll_mk0)), rfl, bel.frame _, fun h => by cases h⟩
theorem over : Rows.fnExactCountShortestRow.holds Try.pinned (OpenSpec.ofChange Rows.fnExactCountShortestSpec) :=
  OpenClaim.holds_of_wide 10 Try.f10 rfl rfl rfl rfl rfl rfl rfl ⟨rfl, rfl, rfl, rfl, rfl⟩ rfl rfl rfl rfl rfl (by kernel_rfl) Try.func10 (by kernel_rfl)
    (of_decide_eq_true (by kernel_rfl)) (by unfold Func.isWrapper; first | (rw [if_pos (by decide +kernel)]; kernel_rfl) | (rw [if_neg (by decide +kernel)]; exact ⟨rfl, rfl⟩))
    (fun os started H enc _ => lifted os started H enc)
theorem proved : Rows.FnExactCountShortestSaid := over
end fnExactCountShortest
end Go.Proofs.Ytggffkklfdpmkaa
