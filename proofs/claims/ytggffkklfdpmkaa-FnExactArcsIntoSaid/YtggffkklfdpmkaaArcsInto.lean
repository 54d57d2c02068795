/- The law FnExactArcsInto returns true for all states. No condition. -/
import Derived.Test.YtggffkklfdpmkaaIntoS
namespace Go.Proofs.Ytggffkklfdpmkaa
open Go.ChangeShapes Go.WideShapes Go.ChangeAt Go.RowKit
set_option linter.unusedVariables false
theorem intoX_len (h m : Int) : (intoX h m).length ≤ 1000000 := by
  cases hv : validB h m
  · unfold intoX; rw [hv]; simp
  · rw [intoX_ok hv]
    have h1 := intoTo_len (arcsL (maskL (popI m) h) h) (stateIdx h m) (arcsL (maskL (popI m) h) h).length
    have h2 := arcs_len (popI m) h (valid_iff hv).1
    omega
theorem c_laws_toState (h m : Int) (w : World) :
    Calls Try.prog 27 #[.agg #[.int .i64 h, .int .i64 m]] w fun e w' => e = .returned (.agg #[.int .i64 h, .int .i64 m]) ∧ Below w.heap.size w w' := by
  go_enter Try.func27, Try.ntmps27
  go_wp2
  exact bodyPost_ret (v := .agg #[.int .i64 h, .int .i64 m]) (by simp [results, Try.results27, go_sem]) rfl ⟨rfl, by (repeat (first | (with_reducible assumption) | (with_reducible exact Below.refl _ _) | (with_reducible refine Below.setCell ?_ (by first | (simp; done) | (simp; omega)) _) | (with_reducible refine Below.al ?_ _) | (with_reducible refine Below.dr ?_) | (with_reducible refine Below.drN ?_ _) | (with_reducible refine Below.tr ?_ (by with_reducible assumption))))⟩
namespace fnExactArcsInto
set_option maxHeartbeats 4000000 in
theorem walk_gen (h m c : Int) (X : List (Int × Int × Int)) (hX : X.length ≤ 1000000)
    (hs : ∀ w, Calls Try.prog 40 #[.agg #[.int .i64 h, .int .i64 m]] w fun e w' => ∃ v, e = .returned (.tuple #[v, .int .i64 c]) ∧ OwnA w.heap.size w'.heap.size w' v X ∧ Below w.heap.size w w')
    (hi : ∀ w, Calls Try.prog 24 #[.agg #[.int .i64 h, .int .i64 m]] w fun e w' => ∃ v, e = .returned (.tuple #[v, .int .i64 c]) ∧ OwnA w.heap.size w'.heap.size w' v X ∧ Below w.heap.size w w') (w : World) :
    Calls Try.prog 9 #[.agg #[.int .i64 h, .int .i64 m]] w fun e w' => e = .returned (.bool true) ∧ Below w.heap.size w w' := by
  have HS := Lib.hid hs
  have HI := Lib.hid hi
  clear hs hi
  have tc : (c != c) = false := by simp
  go_enter Try.func9, Try.ntmps9
  go_wp2_with fail
  refine (c_laws_toState _ _ _).mono ?_; rintro e w1 ⟨rfl, hb1⟩; obtain ⟨hc1, hf1⟩ := bcell hb1; have hz1 : w.heap.size < w1.heap.size := by (have := hb1.size; simp only [World.size_alloc] at this; omega)
  go_wp2_with fail
  refine (HS.out _).mono ?_; rintro e w2 ⟨v0, rfl, ho0, hb2⟩; obtain ⟨hc2, hf2⟩ := bcell hb2; have hz2 : w.heap.size < w2.heap.size := by (have := hb2.size; omega)
  go_wp2_with fail
  refine (c_laws_toState _ _ _).mono ?_; rintro e w3 ⟨rfl, hb3⟩; obtain ⟨hc3, hf3⟩ := bcell hb3; have hz3 : w.heap.size < w3.heap.size := by (have := hb3.size; omega)
  go_wp2_with fail
  refine (HI.out _).mono ?_; rintro e w4 ⟨v1, rfl, ho1, hb4⟩; obtain ⟨hc4, hf4⟩ := bcell hb4; have hz4 : w.heap.size < w4.heap.size := by (have := hb4.size; omega)
  go_wp2_with fail
  refine (c_laws_eqArcS X _ _ _ (OwnRow.rd rowA_len ho1) (OwnRow.rd rowA_len ((ho0.below hb3).below hb4))).mono ?_; rintro e w5 ⟨rfl, hb5⟩; obtain ⟨hc5, hf5⟩ := bcell hb5; have hz5 : w.heap.size < w5.heap.size := by (have := hb5.size; omega)
  go_wp2_with fail
  refine (c_laws_markArcS w3.heap.size w4.heap.size X 1 _ _ (ho1.below hb5) (by omega) (by omega)).mono ?_; rintro e w6 ⟨rfl, ho6, hu6⟩
  have hs1 := hb1.size
  have hs2 := hb2.size
  have hs3 := hb3.size
  have hs4 := hb4.size
  have hs5 := hb5.size
  have hr0 := (((ho0.below hb3).below hb4).below hb5).upd hu6 (Or.inl hs3)
  have hb6 : Below w3.heap.size w5 w6 := hu6.below (Nat.le_refl _) (by omega)
  have hc6 : ∀ b o, b < w3.heap.size → w6.cell? ⟨b, o, none⟩ = w5.cell? ⟨b, o, none⟩ := fun b o h => hb6.cell (p := ⟨b, o, none⟩) h
  have hz6 : w.heap.size < w6.heap.size := by (have := hb6.size; omega)
  go_wp2_with fail
  refine (c_laws_heldArcS X.length 1 _ _ (OwnRow.rd rowA_len ho6) (by omega) (by omega)).mono ?_; rintro e w7 ⟨rfl, rfl⟩
  have t1 : ¬ ((1 + 3 * (X.length : Int)) < 0) := by omega
  have t2 : ((1 + 3 * (X.length : Int)) != (1 + 3 * (X.length : Int))) = false := by simp
  go_wp2_with fail
  refine (c_laws_toState _ _ _).mono ?_; rintro e w8 ⟨rfl, hb8⟩; obtain ⟨hc8, hf8⟩ := bcell hb8; have hz8 : w.heap.size < w8.heap.size := by (have := hb8.size; omega)
  go_wp2_with fail
  refine (HI.out _).mono ?_; rintro e w9 ⟨v2, rfl, ho2, hb9⟩; obtain ⟨hc9, hf9⟩ := bcell hb9; have hz9 : w.heap.size < w9.heap.size := by (have := hb9.size; omega)
  go_wp2_with fail
  refine (c_laws_eqArcS X _ _ _ (OwnRow.rd rowA_len ho2) (OwnRow.rd rowA_len ((hr0.below hb8).below hb9))).mono ?_; rintro e w10 ⟨rfl, hb10⟩
  go_wp2_with fail
  refine (c_laws_heldArcS X.length 1 _ _ (OwnRow.rd rowA_len (((ho6.below hb8).below hb9).below hb10)) (by omega) (by omega)).mono ?_; rintro e w11 ⟨rfl, rfl⟩
  go_wp2
  go_ret
  exact ⟨rfl, (((((((((Below.refl _ _).al _).tr hb1).tr hb2).tr hb3).tr hb4).tr hb5).trans (hb6.mono (by omega))).tr hb8 |>.tr hb9).tr hb10⟩
theorem walk (v0 : Value) (w : World) (a0 : Arg_State w v0) : Calls Try.prog 9 #[v0] w fun e w' => e = .returned (.bool true) ∧ Below w.heap.size w w' := by
  obtain ⟨h, m, rfl⟩ := a0
  exact walk_gen h m _ _ (intoX_len h m) (c_spec_ArcsInto h m) (c_impl_ArcsInto h m) w
theorem own : ownKnob Try.prog.godebug = none := by kernel_rfl
theorem laidOut : laidOutB Try.prog = true := by kernel_rfl
set_option maxRecDepth 100000 in
theorem lifted (os : Os) (started : os.Started) (H : Type) (enc : TypeId × Value → H) :
    ReturnsInHanded {} Try.checked os 9 .any (Rows.fnExactArcsIntoSpec.pre6 enc Try.prog Try.f9 Rows.fnExactArcsIntoRow.domain false) (Rows.fnExactArcsIntoSpec.post enc Try.prog Try.f9 false true false false) := by
  refine returnsInHanded_of_change (C := Try.checked) own started (by kernel_rfl) Try.func9
    (ChangeSpec.witness6 (enc := enc) (C := Try.checked) false ⟨#[], #[.agg #[.int .i64 0, .int .i64 0]], []⟩ 8 (by kernel_rfl) (by kernel_rfl) (by kernel_rfl) (by kernel_rfl)) ?_
  intro W base args ds gs before hval0 hW hcnd _
  have hval : ∀ (j : Nat) t v, Try.f9.params[j]? = some t → args[j]? = some v → Value.okWide Try.prog W .any base t v := hval0
  have hW' := hW
  obtain ⟨p, q, hA0, hV, rfl, hfz, hnd⟩ := hW
  have hA : DataW.TrodAll enc Try.prog W 0 (fun _ => true) true Try.f9.params.toList args.toList ds p := hA0
  rw [Try.params9] at hA hval
  obtain ⟨v0, vs0, d0, ds0, p0, q0, hargs, rfl, rfl, h0, r0⟩ := trodAll_cons hA
  obtain ⟨rfl, rfl, rfl⟩ := trodAll_nil r0
  obtain rfl : args = #[v0] := by cases args; simp_all
  obtain ⟨rfl, rfl⟩ := trodVars_none hV
  have k0 := h0
  have lt0 : ∀ x ∈ p0, x.block < W.heap.size := by obtain ⟨m, hm⟩ := k0; exact DataW.trod_lt m _ _ _ hm
  have a0 := open_State (hval 0 43 v0 rfl rfl) h0
  clear hA0 hval0
  refine (walk v0 W a0).mono fun e W' ⟨he, bel⟩ => ?_
  subst he
  exact ⟨_, rfl, _, _, _, [], _, [], hW', trodAll_mk1 (shut_bool Try.underlying4 _), (trodAll_cons_mk (Below.trod laidOut (by kernel_rfl) (of_decide_eq_true (by kernel_rfl)) k0 bel lt0) trodAll_mk0), rfl, bel.frame _, fun h => by cases h⟩
theorem over : Rows.fnExactArcsIntoRow.holds Try.pinned (OpenSpec.ofChange Rows.fnExactArcsIntoSpec) :=
  OpenClaim.holds_of_wide 9 Try.f9 rfl rfl rfl rfl rfl rfl rfl ⟨rfl, rfl, rfl, rfl, rfl⟩ rfl rfl rfl rfl rfl (by kernel_rfl) Try.func9 (by kernel_rfl)
    (of_decide_eq_true (by kernel_rfl)) (by unfold Func.isWrapper; first | (rw [if_pos (by decide +kernel)]; kernel_rfl) | (rw [if_neg (by decide +kernel)]; exact ⟨rfl, rfl⟩))
    (fun os started H enc _ => lifted os started H enc)
theorem proved : Rows.FnExactArcsIntoSaid := over
end fnExactArcsInto
end Go.Proofs.Ytggffkklfdpmkaa
