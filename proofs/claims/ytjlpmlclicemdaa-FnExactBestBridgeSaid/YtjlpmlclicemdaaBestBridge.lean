/- The law FnExactBestBridge returns true for all slices of int64 and all int64s. No condition. -/
import Derived.Test.YtjlpmlclicemdaaBest3
import Derived.Test.YtjlpmlclicemdaaLawC
namespace Go.Proofs.Ytjlpmlclicemdaa
open Go.ChangeShapes Go.WideShapes Go.ChangeAt Go.RowKit
set_option linter.unusedVariables false
namespace fnExactBestBridge
set_option maxHeartbeats 4000000 in
theorem walk_gen (w : World) (a0x : List Int) (a0v : Value) (a0r : RdI w a0v a0x) (a1x : List Int) (a1v : Value) (a1r : RdI w a1v a1x) (a2n : Int) (a2b : -9223372036854775808 ≤ a2n ∧ a2n ≤ 9223372036854775807) (c0 : Int) (c1 : Int) (c2 : Int) 
    (hs : ∀ (w : World) (u0 : Value) (u1 : Value) (_ : RdI w u0 a0x) (_ : RdI w u1 a1x), Calls Try.prog 27 #[u0, u1, .int .i64 a2n] w fun e w' => e = .returned (.tuple #[.int .i64 c0, .int .i64 c1, .int .i64 c2]) ∧ Below w.heap.size w w')
    (hi : ∀ (w : World) (u0 : Value) (u1 : Value) (_ : RdI w u0 a0x) (_ : RdI w u1 a1x), Calls Try.prog 28 #[u0, u1, .int .i64 a2n] w fun e w' => e = .returned (.tuple #[.int .i64 c0, .int .i64 c1, .int .i64 c2]) ∧ Below w.heap.size w w') :
    Calls Try.prog 7 #[a0v, a1v, .int .i64 a2n] w fun e w' => e = .returned (.bool true) ∧ Below w.heap.size w w' := by
  have HS := Lib.hid hs
  have HI := Lib.hid hi
  clear hs hi
  have tc0 : (c0 != c0) = false := by simp
  have tc1 : (c1 != c1) = false := by simp
  have tc2 : (c2 != c2) = false := by simp
  by_cases hg0 : a0x.length ≤ 1048576
  rotate_left
  · obtain ⟨aa, cc, rfl, _, _⟩ := a0r
    go_enter Try.func7, Try.ntmps7
    go_wp2
    go_ret
    exact ⟨rfl, by (repeat (first | (with_reducible assumption) | (with_reducible exact Below.refl _ _) | (with_reducible refine Below.setCell ?_ (by first | (simp; done) | (simp; omega)) _) | (with_reducible refine Below.al ?_ _) | (with_reducible refine Below.dr ?_) | (with_reducible refine Below.drN ?_ _) | (with_reducible refine Below.tr ?_ (by with_reducible assumption))))⟩
  by_cases hg1 : a1x.length ≤ 1048576
  rotate_left
  · obtain ⟨aa, cc, rfl, _, _⟩ := a1r
    obtain ⟨ab, cd, rfl, _, _⟩ := a0r
    go_enter Try.func7, Try.ntmps7
    go_wp2
    go_ret
    exact ⟨rfl, by (repeat (first | (with_reducible assumption) | (with_reducible exact Below.refl _ _) | (with_reducible refine Below.setCell ?_ (by first | (simp; done) | (simp; omega)) _) | (with_reducible refine Below.al ?_ _) | (with_reducible refine Below.dr ?_) | (with_reducible refine Below.drN ?_ _) | (with_reducible refine Below.tr ?_ (by with_reducible assumption))))⟩
  obtain ⟨aa0, cc0, rfl, al0, ac0⟩ := a0r
  have a0r : RdI w (.slice aa0 a0x.length cc0) a0x := ⟨aa0, cc0, rfl, al0, ac0⟩
  clear ac0
  obtain ⟨aa1, cc1, rfl, al1, ac1⟩ := a1r
  have a1r : RdI w (.slice aa1 a1x.length cc1) a1x := ⟨aa1, cc1, rfl, al1, ac1⟩
  clear ac1
  go_enter Try.func7, Try.ntmps7
  go_wp2_with fail
  obtain ⟨W0, hW0⟩ : ∃ W0, W0 = w := ⟨_, rfl⟩
  have B0 : Below w.heap.size w W0 := by rw [hW0]; (repeat (first | (with_reducible assumption) | (with_reducible exact Below.refl _ _) | (with_reducible refine Below.setCell ?_ (by first | (simp; done) | (simp; omega)) _) | (with_reducible refine Below.al ?_ _) | (with_reducible refine Below.dr ?_) | (with_reducible refine Below.drN ?_ _) | (with_reducible refine Below.tr ?_ (by with_reducible assumption))))
  have hs00 : w.heap.size ≤ W0.heap.size := B0.size
  rw [← hW0]
  clear hW0
  refine (c_laws_toInt64S a0x _ _ (a0r.below B0) (by omega)).mono ?_; rintro e W1 ⟨rfl, ht1, hb1⟩
  have hs1 := hb1.size
  have B1 : Below w.heap.size w W1 := B0.tr hb1
  go_wp2_with fail
  refine (c_laws_toInt64S a1x _ _ (a1r.below B1) (by omega)).mono ?_; rintro e W2 ⟨rfl, ht2, hb2⟩
  have hs2 := hb2.size
  have B2 : Below w.heap.size w W2 := B1.tr hb2
  go_wp2_with fail
  refine (HS.out _ _ _ ((((ht1).ir).below hb2)).rd (((ht2).ir)).rd).mono ?_; rintro e W3 ⟨rfl, hb3⟩
  have hs3 := hb3.size
  have B3 : Below w.heap.size w W3 := B2.tr hb3
  go_wp2_with fail
  refine (c_laws_toInt64S a0x _ _ (a0r.below B3) (by omega)).mono ?_; rintro e W4 ⟨rfl, ht3, hb4⟩
  have hs4 := hb4.size
  have B4 : Below w.heap.size w W4 := B3.tr hb4
  go_wp2_with fail
  refine (c_laws_toInt64S a1x _ _ (a1r.below B4) (by omega)).mono ?_; rintro e W5 ⟨rfl, ht4, hb5⟩
  have hs5 := hb5.size
  have B5 : Below w.heap.size w W5 := B4.tr hb5
  go_wp2_with fail
  refine (HI.out _ _ _ ((((ht3).ir).below hb5)).rd (((ht4).ir)).rd).mono ?_; rintro e W6 ⟨rfl, hb6⟩
  have hs6 := hb6.size
  have B6 : Below w.heap.size w W6 := B5.tr hb6
  go_wp2_with fail
  refine (c_laws_toInt64S a0x _ _ (a0r.below B6) (by omega)).mono ?_; rintro e W7 ⟨rfl, ht5, hb7⟩
  have hs7 := hb7.size
  have B7 : Below w.heap.size w W7 := B6.tr hb7
  go_wp2_with fail
  refine (c_laws_eqInt64S a0x a0x _ _ _ ((((((ht3).ir).below hb5).below hb6).below hb7)).rd (((ht5).ir)).rd).mono ?_; rintro e W8 ⟨rfl, hb8⟩
  have hs8 := hb8.size
  have B8 : Below w.heap.size w W8 := B7.tr hb8
  go_wp2_with fail
  refine (c_laws_toInt64S a1x _ _ (a1r.below B8) (by omega)).mono ?_; rintro e W9 ⟨rfl, ht6, hb9⟩
  have hs9 := hb9.size
  have B9 : Below w.heap.size w W9 := B8.tr hb9
  go_wp2_with fail
  refine (c_laws_eqInt64S a1x a1x _ _ _ (((((((ht4).ir).below hb6).below hb7).below hb8).below hb9)).rd (((ht6).ir)).rd).mono ?_; rintro e W10 ⟨rfl, hb10⟩
  have hs10 := hb10.size
  have B10 : Below w.heap.size w W10 := B9.tr hb10
  go_wp2
  go_ret
  exact ⟨rfl, B10⟩
theorem walk (v0 v1 v2 : Value) (w : World) (a0 : Arg_ints w v0) (a1 : Arg_ints w v1) (a2 : Arg_int64 w v2) : Calls Try.prog 7 #[v0, v1, v2] w fun e w' => e = .returned (.bool true) ∧ Below w.heap.size w w' := by
  obtain ⟨p, hp⟩ := a0
  obtain ⟨q, hq⟩ := a1
  obtain ⟨h, rfl, hh⟩ := a2
  exact walk_gen w p v0 hp q v1 hq h hh _ _ _ (fun w u u2 hu hu2 => c_spec_BestBridge p q h u u2 w hu hu2) (fun w u u2 hu hu2 => c_impl_BestBridge p q h u u2 w hu hu2)
theorem own : ownKnob Try.prog.godebug = none := by kernel_rfl
theorem laidOut : laidOutB Try.prog = true := by kernel_rfl
set_option maxRecDepth 100000 in
theorem lifted (os : Os) (started : os.Started) (H : Type) (enc : TypeId × Value → H) :
    ReturnsInHanded {} Try.checked os 7 .any (Rows.fnExactBestBridgeSpec.pre6 enc Try.prog Try.f7 Rows.fnExactBestBridgeRow.domain false) (Rows.fnExactBestBridgeSpec.post enc Try.prog Try.f7 false true false false) := by
  refine returnsInHanded_of_change (C := Try.checked) own started (by kernel_rfl) Try.func7
    (ChangeSpec.witness6 (enc := enc) (C := Try.checked) false ⟨#[], #[.slice none 0 0, .slice none 0 0, .int .i64 0], []⟩ 8 (by kernel_rfl) (by kernel_rfl) (by kernel_rfl) (by kernel_rfl)) ?_
  intro W base args ds gs before hval0 hW hcnd _
  have hval : ∀ (j : Nat) t v, Try.f7.params[j]? = some t → args[j]? = some v → Value.okWide Try.prog W .any base t v := hval0
  have hW' := hW
  obtain ⟨p, q, hA0, hV, rfl, hfz, hnd⟩ := hW
  have hA : DataW.TrodAll enc Try.prog W 0 (fun _ => true) true Try.f7.params.toList args.toList ds p := hA0
  rw [Try.params7] at hA hval
  obtain ⟨v0, vs0, d0, ds0, p0, q0, hargs, rfl, rfl, h0, r0⟩ := trodAll_cons hA
  obtain ⟨v1, vs1, d1, ds1, p1, q1, rfl, rfl, rfl, h1, r1⟩ := trodAll_cons r0
  obtain ⟨v2, vs2, d2, ds2, p2, q2, rfl, rfl, rfl, h2, r2⟩ := trodAll_cons r1
  obtain ⟨rfl, rfl, rfl⟩ := trodAll_nil r2
  obtain rfl : args = #[v0, v1, v2] := by cases args; simp_all
  obtain ⟨rfl, rfl⟩ := trodVars_none hV
  have k0 := h0
  have lt0 : ∀ x ∈ p0, x.block < W.heap.size := by obtain ⟨m, hm⟩ := k0; exact DataW.trod_lt m _ _ _ hm
  have a0 := open_intsArg (hval 0 22 v0 rfl rfl) h0
  have k1 := h1
  have lt1 : ∀ x ∈ p1, x.block < W.heap.size := by obtain ⟨m, hm⟩ := k1; exact DataW.trod_lt m _ _ _ hm
  have a1 := open_intsArg (hval 1 22 v1 rfl rfl) h1
  have k2 := h2
  have lt2 : ∀ x ∈ p2, x.block < W.heap.size := by obtain ⟨m, hm⟩ := k2; exact DataW.trod_lt m _ _ _ hm
  have a2 := open_int64 (hval 2 2 v2 rfl rfl) h2
  clear hA0 hval0
  refine (walk v0 v1 v2 W a0 a1 a2).mono fun e W' ⟨he, bel⟩ => ?_
  subst he
  exact ⟨_, rfl, _, _, _, [], _, [], hW', trodAll_mk1 (shut_bool Try.underlying4 _), (trodAll_cons_mk (Below.trod laidOut (by kernel_rfl) (of_decide_eq_true (by kernel_rfl)) k0 bel lt0) (trodAll_cons_mk (Below.trod laidOut (by kernel_rfl) (of_decide_eq_true (by kernel_rfl)) k1 bel lt1) (trodAll_cons_mk (Below.trod laidOut (by kernel_rfl) (of_decide_eq_true (by kernel_rfl)) k2 bel lt2) trodAll_mk0))), rfl, bel.frame _, fun h => by cases h⟩
theorem over : Rows.fnExactBestBridgeRow.holds Try.pinned (OpenSpec.ofChange Rows.fnExactBestBridgeSpec) :=
  OpenClaim.holds_of_wide 7 Try.f7 rfl rfl rfl rfl rfl rfl rfl ⟨rfl, rfl, rfl, rfl, rfl⟩ rfl rfl rfl rfl rfl (by kernel_rfl) Try.func7 (by kernel_rfl)
    (of_decide_eq_true (by kernel_rfl)) (by unfold Func.isWrapper; first | (rw [if_pos (by decide +kernel)]; kernel_rfl) | (rw [if_neg (by decide +kernel)]; exact ⟨rfl, rfl⟩))
    (fun os started H enc _ => lifted os started H enc)
theorem proved : Rows.FnExactBestBridgeSaid := over
end fnExactBestBridge
end Go.Proofs.Ytjlpmlclicemdaa
