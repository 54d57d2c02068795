/- The law FnExactDiameter returns true for all int64s. No condition. -/
import Derived.Test.YtggffkklfdpmkaaDiam
import Derived.Test.YtggffkklfdpmkaaLawC
namespace Go.Proofs.Ytggffkklfdpmkaa
open Go.ChangeShapes Go.WideShapes Go.ChangeAt Go.RowKit
set_option linter.unusedVariables false
namespace fnExactDiameter
set_option maxHeartbeats 4000000 in
theorem walk_gen (w : World) (a0n : Int) (a0b : -9223372036854775808 ≤ a0n ∧ a0n ≤ 9223372036854775807) (a1n : Int) (a1b : -9223372036854775808 ≤ a1n ∧ a1n ≤ 9223372036854775807) (c0 : Int) (c1 : Int) 
    (hs : ∀ (w : World), Calls Try.prog 29 #[.int .i64 a0n, .int .i64 a1n] w fun e w' => e = .returned (.tuple #[.int .i64 c0, .int .i64 c1]) ∧ Below w.heap.size w w')
    (hi : ∀ (w : World), Calls Try.prog 30 #[.int .i64 a0n, .int .i64 a1n] w fun e w' => e = .returned (.tuple #[.int .i64 c0, .int .i64 c1]) ∧ Below w.heap.size w w') :
    Calls Try.prog 6 #[.int .i64 a0n, .int .i64 a1n] w fun e w' => e = .returned (.bool true) ∧ Below w.heap.size w w' := by
  have HS := Lib.hid hs
  have HI := Lib.hid hi
  clear hs hi
  have tc0 : (c0 != c0) = false := by simp
  have tc1 : (c1 != c1) = false := by simp
  go_enter Try.func6, Try.ntmps6
  go_wp2_with fail
  obtain ⟨W0, hW0⟩ : ∃ W0, W0 = w := ⟨_, rfl⟩
  have B0 : Below w.heap.size w W0 := by rw [hW0]; (repeat (first | (with_reducible assumption) | (with_reducible exact Below.refl _ _) | (with_reducible refine Below.setCell ?_ (by first | (simp; done) | (simp; omega)) _) | (with_reducible refine Below.al ?_ _) | (with_reducible refine Below.dr ?_) | (with_reducible refine Below.drN ?_ _) | (with_reducible refine Below.tr ?_ (by with_reducible assumption))))
  have hs00 : w.heap.size ≤ W0.heap.size := B0.size
  rw [← hW0]
  clear hW0
  refine (HS.out _).mono ?_; rintro e W1 ⟨rfl, hb1⟩
  have hs1 := hb1.size
  have B1 : Below w.heap.size w W1 := B0.tr hb1
  go_wp2_with fail
  refine (HI.out _).mono ?_; rintro e W2 ⟨rfl, hb2⟩
  have hs2 := hb2.size
  have B2 : Below w.heap.size w W2 := B1.tr hb2
  go_wp2
  go_ret
  exact ⟨rfl, B2⟩
theorem walk (v0 v1 : Value) (w : World) (a0 : Arg_int64 w v0) (a1 : Arg_int64 w v1) : Calls Try.prog 6 #[v0, v1] w fun e w' => e = .returned (.bool true) ∧ Below w.heap.size w w' := by
  obtain ⟨n, rfl, hn⟩ := a0
  obtain ⟨h, rfl, hh⟩ := a1
  exact walk_gen w n hn h hh _ _ (fun w => c_spec_Diameter n h w) (fun w => c_impl_Diameter n h w)
theorem own : ownKnob Try.prog.godebug = none := by kernel_rfl
theorem laidOut : laidOutB Try.prog = true := by kernel_rfl
set_option maxRecDepth 100000 in
theorem lifted (os : Os) (started : os.Started) (H : Type) (enc : TypeId × Value → H) :
    ReturnsInHanded {} Try.checked os 6 .any (Rows.fnExactDiameterSpec.pre6 enc Try.prog Try.f6 Rows.fnExactDiameterRow.domain false) (Rows.fnExactDiameterSpec.post enc Try.prog Try.f6 false true false false) := by
  refine returnsInHanded_of_change (C := Try.checked) own started (by kernel_rfl) Try.func6
    (ChangeSpec.witness6 (enc := enc) (C := Try.checked) false ⟨#[], #[.int .i64 0, .int .i64 0], []⟩ 8 (by kernel_rfl) (by kernel_rfl) (by kernel_rfl) (by kernel_rfl)) ?_
  intro W base args ds gs before hval0 hW hcnd _
  have hval : ∀ (j : Nat) t v, Try.f6.params[j]? = some t → args[j]? = some v → Value.okWide Try.prog W .any base t v := hval0
  have hW' := hW
  obtain ⟨p, q, hA0, hV, rfl, hfz, hnd⟩ := hW
  have hA : DataW.TrodAll enc Try.prog W 0 (fun _ => true) true Try.f6.params.toList args.toList ds p := hA0
  rw [Try.params6] at hA hval
  obtain ⟨v0, vs0, d0, ds0, p0, q0, hargs, rfl, rfl, h0, r0⟩ := trodAll_cons hA
  obtain ⟨v1, vs1, d1, ds1, p1, q1, rfl, rfl, rfl, h1, r1⟩ := trodAll_cons r0
  obtain ⟨rfl, rfl, rfl⟩ := trodAll_nil r1
  obtain rfl : args = #[v0, v1] := by cases args; simp_all
  obtain ⟨rfl, rfl⟩ := trodVars_none hV
  have k0 := h0
  have lt0 : ∀ x ∈ p0, x.block < W.heap.size := by obtain ⟨m, hm⟩ := k0; exact DataW.trod_lt m _ _ _ hm
  have a0 := open_int64 (hval 0 2 v0 rfl rfl) h0
  have k1 := h1
  have lt1 : ∀ x ∈ p1, x.block < W.heap.size := by obtain ⟨m, hm⟩ := k1; exact DataW.trod_lt m _ _ _ hm
  have a1 := open_int64 (hval 1 2 v1 rfl rfl) h1
  clear hA0 hval0
  refine (walk v0 v1 W a0 a1).mono fun e W' ⟨he, bel⟩ => ?_
  subst he
  exact ⟨_, rfl, _, _, _, [], _, [], hW', trodAll_mk1 (shut_bool Try.underlying4 _), (trodAll_cons_mk (Below.trod laidOut (by kernel_rfl) (of_decide_eq_true (by kernel_rfl)) k0 bel lt0) (trodAll_cons_mk (Below.trod laidOut (by kernel_rfl) (of_decide_eq_true (by kernel_rfl)) k1 bel lt1) trodAll_mk0)), rfl, bel.frame _, fun h => by cases h⟩
theorem over : Rows.fnExactDiameterRow.holds Try.pinned (OpenSpec.ofChange Rows.fnExactDiameterSpec) :=
  OpenClaim.holds_of_wide 6 Try.f6 rfl rfl rfl rfl rfl rfl rfl ⟨rfl, rfl, rfl, rfl, rfl⟩ rfl rfl rfl rfl rfl (by kernel_rfl) Try.func6 (by kernel_rfl)
    (of_decide_eq_true (by kernel_rfl)) (by unfold Func.isWrapper; first | (rw [if_pos (by decide +kernel)]; kernel_rfl) | (rw [if_neg (by decide +kernel)]; exact ⟨rfl, rfl⟩))
    (fun os started H enc _ => lifted os started H enc)
theorem proved : Rows.FnExactDiameterSaid := over
end fnExactDiameter
end Go.Proofs.Ytggffkklfdpmkaa
