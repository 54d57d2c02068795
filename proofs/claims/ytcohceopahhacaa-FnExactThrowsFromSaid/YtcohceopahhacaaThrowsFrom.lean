/- The law FnExactThrowsFrom returns true for every State. No condition. -/
import Derived.Test.YtcohceopahhacaaLawI
import Derived.ChangeOld
import Derived.Lib.SmallJoins
import Derived.Laws.ResultCell
namespace Go.Proofs.Ytcohceopahhacaa
open Go.ChangeShapes Go.WideShapes Go.ChangeAt Go.RowKit
theorem c_laws_toState (h m : Int) (w : World) :
    Calls Try.prog 23 #[.agg #[.int .i64 h, .int .i64 m]] w fun e w' => e = .returned (.agg #[.int .i64 h, .int .i64 m]) ∧ Below w.heap.size w w' := by
  go_enter Try.func23, Try.ntmps23
  go_wp2
  exact bodyPost_ret (v := .agg #[.int .i64 h, .int .i64 m]) (by simp [results, Try.results23, go_sem]) rfl ⟨rfl, by (repeat (first | exact Below.refl _ _ | (refine Below.tr ?_ (by assumption)) | (refine Below.al ?_ _) | (refine Below.dr ?_) | (refine Below.drN ?_ _)))⟩
set_option maxHeartbeats 1000000 in
theorem c_spec_ThrowsFrom (h m : Int) (w : World) :
    Calls Try.prog 22 #[.agg #[.int .i64 h, .int .i64 m]] w fun e w' => ∃ v, e = .returned (.tuple #[v, .int .i64 (bif validB h m then 0 else 1)]) ∧ OwnI1 w.heap.size w' v (bif validB h m then throwsL h m else []) ∧ Below w.heap.size w w' := by
  cases hv : validB h m
  · go_enter Try.func22, Try.ntmps22
    go_wp2_with (go_at_call 45; refine (c_spec_l08Ok _ _ _).mono ?_; rintro e w1 ⟨rfl, hb⟩; obtain ⟨hc, hf⟩ := bcell hb)
    go_ret2
    exact ⟨_, rfl, OwnI.nil _ rfl, by (repeat (first | exact Below.refl _ _ | (refine Below.tr ?_ (by assumption)) | (refine Below.al ?_ _) | (refine Below.dr ?_) | (refine Below.drN ?_ _)))⟩
  · have hbd := valid_bd hv
    go_enter Try.func22, Try.ntmps22
    go_wp2_with (first | (go_at_call 45; refine (c_spec_l08Ok _ _ _).mono ?_; rintro e w1 ⟨rfl, hb⟩; obtain ⟨hc, hf⟩ := bcell hb) | (go_at_call 46; refine (c_spec_l08Throws _ _ _ (by omega) hbd.2).mono ?_; rintro e w2 ⟨v, rfl, hown, hb2⟩))
    go_ret2
    exact ⟨_, rfl, hown.base (by have := hb.size; simp at this; omega), by (repeat (first | exact Below.refl _ _ | (refine Below.tr ?_ (by assumption)) | (refine Below.al ?_ _) | (refine Below.dr ?_) | (refine Below.drN ?_ _)))⟩
set_option maxHeartbeats 1000000 in
theorem c_impl_ThrowsFrom (h m : Int) (w : World) :
    Calls Try.prog 24 #[.agg #[.int .i64 h, .int .i64 m]] w fun e w' => ∃ v, e = .returned (.tuple #[v, .int .i64 (bif validB h m then 0 else 1)]) ∧ OwnI1 w.heap.size w' v (bif validB h m then throwsL h m else []) ∧ Below w.heap.size w w' := by
  cases hv : validB h m
  · go_enter Try.func24, Try.ntmps24
    go_wp2_with (go_at_call 47; refine (c_impl_ValidState _ _ _).mono ?_; rintro e w1 ⟨rfl, hb⟩; obtain ⟨hc, hf⟩ := bcell hb)
    go_ret2
    exact ⟨_, rfl, OwnI.nil _ rfl, by (repeat (first | exact Below.refl _ _ | (refine Below.tr ?_ (by assumption)) | (refine Below.al ?_ _) | (refine Below.dr ?_) | (refine Below.drN ?_ _)))⟩
  · have hbd := valid_bd hv
    go_enter Try.func24, Try.ntmps24
    go_wp2_with (first | (go_at_call 47; refine (c_impl_ValidState _ _ _).mono ?_; rintro e w1 ⟨rfl, hb⟩; obtain ⟨hc, hf⟩ := bcell hb) | (go_at_call 48; refine (c_impl_State_throws _ _ _ (by omega) hbd.2).mono ?_; rintro e w2 ⟨v, rfl, hown, hb2⟩))
    go_ret2
    exact ⟨_, rfl, hown.base (by have := hb.size; simp at this; omega), by (repeat (first | exact Below.refl _ _ | (refine Below.tr ?_ (by assumption)) | (refine Below.al ?_ _) | (refine Below.dr ?_) | (refine Below.drN ?_ _)))⟩
namespace fnExactThrowsFrom
set_option maxHeartbeats 2000000 in
theorem walk_gen (h m c : Int) (L : List Int) (hL : L.length ≤ 1000000)
    (hs : ∀ w, Calls Try.prog 22 #[.agg #[.int .i64 h, .int .i64 m]] w fun e w' => ∃ v, e = .returned (.tuple #[v, .int .i64 c]) ∧ OwnI1 w.heap.size w' v L ∧ Below w.heap.size w w')
    (hi : ∀ w, Calls Try.prog 24 #[.agg #[.int .i64 h, .int .i64 m]] w fun e w' => ∃ v, e = .returned (.tuple #[v, .int .i64 c]) ∧ OwnI1 w.heap.size w' v L ∧ Below w.heap.size w w') (w : World) :
    Calls Try.prog 6 #[.agg #[.int .i64 h, .int .i64 m]] w fun e w' => e = .returned (.bool true) ∧ Below w.heap.size w w' := by
  have HS := Lib.hid hs
  have HI := Lib.hid hi
  clear hs hi
  go_enter Try.func6, Try.ntmps6
  go_wp2_with fail
  refine (c_laws_toState _ _ _).mono ?_; rintro e w1 ⟨rfl, hb1⟩; obtain ⟨hc1, hf1⟩ := bcell hb1; have hz1 : w.heap.size < w1.heap.size := by (have := hb1.size; simp only [World.size_alloc] at this; omega)
  go_wp2_with fail
  refine (HS.out _).mono ?_; rintro e w2 ⟨v0, rfl, ho0, hb2⟩; obtain ⟨hc2, hf2⟩ := bcell hb2; have hz2 : w.heap.size < w2.heap.size := by (have := hb2.size; omega)
  go_wp2_with fail
  refine (c_laws_toState _ _ _).mono ?_; rintro e w3 ⟨rfl, hb3⟩; obtain ⟨hc3, hf3⟩ := bcell hb3; have hz3 : w.heap.size < w3.heap.size := by (have := hb3.size; omega)
  go_wp2_with fail
  refine (HI.out _).mono ?_; rintro e w4 ⟨v1, rfl, ho1, hb4⟩; obtain ⟨hc4, hf4⟩ := bcell hb4; have hz4 : w.heap.size < w4.heap.size := by (have := hb4.size; omega)
  go_wp2_with fail
  refine (c_laws_eqInt64S L L _ _ _ ho1.rd ((ho0.below hb3).below hb4).rd).mono ?_; rintro e w5 ⟨rfl, hb5⟩; obtain ⟨hc5, hf5⟩ := bcell hb5; have hz5 : w.heap.size < w5.heap.size := by (have := hb5.size; omega)
  go_wp2_with fail
  refine (c_laws_markInt64S _ L 1 _ _ (ho1.below hb5) (by omega) (by omega)).mono ?_; rintro e w6 ⟨rfl, ho6, hg6⟩
  have hb6 : Below w3.heap.size w5 w6 := (Below.refl _ _).grown hg6 (by have := hb4.size; have := hb5.size; omega) (fun k hk => (World.ownsRow.lt ho1 k hk).1)
  have hc6 : ∀ b o, b < w3.heap.size → w6.cell? ⟨b, o, none⟩ = w5.cell? ⟨b, o, none⟩ := fun b o h => hb6.cell (p := ⟨b, o, none⟩) h
  have hz6 : w.heap.size < w6.heap.size := by (have := hb6.size; omega)
  have hr0 : RdI w6 v0 L := RdI.grown (B := w3.heap.size) (((ho0.below hb3).below hb4).below hb5).rd hg6 (fun k hk => (World.ownsRow.lt (ho0.below hb3) k hk).2) (fun k hk => (World.ownsRow.lt ho1 k hk).1)
  go_wp2_with fail
  refine (c_laws_heldInt64S L.length 1 _ _ ho6.rd (by omega) (by omega)).mono ?_; rintro e w7 ⟨rfl, rfl⟩
  have t1 : ((1 + (L.length : Int)) < 0) = False := by simp; omega
  have t2 : ((1 + (L.length : Int)) != (1 + (L.length : Int))) = false := by simp
  go_wp2_with fail
  refine (c_laws_toState _ _ _).mono ?_; rintro e w8 ⟨rfl, hb8⟩; obtain ⟨hc8, hf8⟩ := bcell hb8; have hz8 : w.heap.size < w8.heap.size := by (have := hb8.size; omega)
  go_wp2_with fail
  refine (HI.out _).mono ?_; rintro e w9 ⟨v2, rfl, ho2, hb9⟩; obtain ⟨hc9, hf9⟩ := bcell hb9; have hz9 : w.heap.size < w9.heap.size := by (have := hb9.size; omega)
  go_wp2_with fail
  refine (c_laws_eqInt64S L L _ _ _ ho2.rd ((hr0.below hb8).below hb9)).mono ?_; rintro e w10 ⟨rfl, hb10⟩; obtain ⟨hc10, hf10⟩ := bcell hb10; have hz10 : w.heap.size < w10.heap.size := by (have := hb10.size; omega)
  go_wp2_with fail
  refine (c_laws_heldInt64S L.length 1 _ _ (((ho6.rd.below hb8).below hb9).below hb10) (by omega) (by omega)).mono ?_; rintro e w11 ⟨rfl, rfl⟩
  go_wp2_with fail
  go_ret
  exact ⟨rfl, (((((((((Below.refl _ _).al _).tr hb1).tr hb2).tr hb3).tr hb4).tr hb5).trans (hb6.mono (by omega))).tr hb8 |>.tr hb9).tr hb10⟩
theorem walk (h m : Int) (w : World) : Calls Try.prog 6 #[.agg #[.int .i64 h, .int .i64 m]] w fun e w' => e = .returned (.bool true) ∧ Below w.heap.size w w' := by
  refine walk_gen h m (bif validB h m then 0 else 1) (bif validB h m then throwsL h m else []) ?_ (fun w => c_spec_ThrowsFrom h m w) (fun w => c_impl_ThrowsFrom h m w) w
  cases hv : validB h m
  · simp
  · have := throwsTo_len h m (h + 1).toNat
    have hb := valid_bd hv
    simp only [throwsL, cond_true]; omega
theorem own : ownKnob Try.prog.godebug = none := by kernel_rfl
theorem laidOut : laidOutB Try.prog = true := by kernel_rfl
theorem cells : Try.prog.cellsOf 38 = 2 := by kernel_rfl
set_option maxRecDepth 100000 in
theorem lifted (os : Os) (started : os.Started) (H : Type) (enc : TypeId × Value → H) :
    ReturnsInHanded {} Try.checked os 6 .any (Rows.fnExactThrowsFromSpec.pre6 enc Try.prog Try.f6 Rows.fnExactThrowsFromRow.domain false) (Rows.fnExactThrowsFromSpec.post enc Try.prog Try.f6 false true false false) := by
  refine returnsInHanded_of_change (C := Try.checked) own started (by kernel_rfl) Try.func6
    (ChangeSpec.witness6 (enc := enc) (C := Try.checked) false ⟨#[], #[.agg #[.int .i64 0, .int .i64 0]], []⟩ 8 (by kernel_rfl) (by kernel_rfl) (by kernel_rfl) (by kernel_rfl)) ?_
  intro W base args ds gs before hval0 hW hcnd _
  have hval : ∀ (j : Nat) t v, Try.f6.params[j]? = some t → args[j]? = some v → Value.okWide Try.prog W .any base t v := hval0
  have hW' := hW
  obtain ⟨p, q, hA0, hV, rfl, hfz, hnd⟩ := hW
  have hA : DataW.TrodAll enc Try.prog W 0 (fun _ => true) true Try.f6.params.toList args.toList ds p := hA0
  rw [Try.params6] at hA hval
  obtain ⟨v0, vs0, d0, ds0, p0, q0, hargs, rfl, rfl, h0, r0⟩ := trodAll_cons hA
  obtain ⟨rfl, rfl, rfl⟩ := trodAll_nil r0
  obtain rfl : args = #[v0] := by cases args; simp_all
  obtain ⟨rfl, rfl⟩ := trodVars_none hV
  have k0 := h0
  have lt0 : ∀ x ∈ p0, x.block < W.heap.size := by obtain ⟨m, hm⟩ := k0; exact DataW.trod_lt m _ _ _ hm
  obtain ⟨h, m, rfl⟩ : ∃ h m : Int, v0 = .agg #[.int .i64 h, .int .i64 m] := by
    obtain ⟨c0, c1, y0, y1, n, rfl, _, _, hy0, hy1⟩ := Joins.open_agg2 Try.underlying38 (by kernel_rfl) cells (hval 0 38 v0 rfl rfl) h0
    obtain ⟨a, e0, _, _⟩ := DataW.trod_int Try.underlying2 hy0
    obtain ⟨b, e1, _, _⟩ := DataW.trod_int Try.underlying2 hy1
    simp at e0 e1
    subst e0 e1
    exact ⟨_, _, rfl⟩
  clear hA0 hval0
  refine (walk h m W).mono fun e W' ⟨he, bel⟩ => ?_
  subst he
  exact ⟨_, rfl, _, _, _, [], _, [], hW', trodAll_mk1 (shut_bool Try.underlying4 _), (trodAll_cons_mk (Below.trod laidOut (by kernel_rfl) (of_decide_eq_true (by kernel_rfl)) k0 bel lt0) trodAll_mk0), rfl, bel.frame _, fun h => by cases h⟩

theorem over : Rows.fnExactThrowsFromRow.holds Try.pinned (OpenSpec.ofChange Rows.fnExactThrowsFromSpec) :=
  OpenClaim.holds_of_wide 6 Try.f6 rfl rfl rfl rfl rfl rfl rfl ⟨rfl, rfl, rfl, rfl, rfl⟩ rfl rfl rfl rfl rfl (by kernel_rfl) Try.func6 (by kernel_rfl)
    (of_decide_eq_true (by kernel_rfl)) (by unfold Func.isWrapper; first | (rw [if_pos (by decide +kernel)]; kernel_rfl) | (rw [if_neg (by decide +kernel)]; exact ⟨rfl, rfl⟩))
    (fun os started H enc _ => lifted os started H enc)

theorem proved : Rows.FnExactThrowsFromSaid := over
end fnExactThrowsFrom
end Go.Proofs.Ytcohceopahhacaa
