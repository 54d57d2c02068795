/- The law FnExactStepName returns true for every int64: the program's StepName and the reference's agree. No condition. -/
import Derived.Test.YtcohceopahhacaaBase
import Derived.Test.YtcohceopahhacaaArgs
namespace Go.Proofs.Ytcohceopahhacaa
open Go.ChangeShapes Go.WideShapes Go.ChangeAt Go.RowKit
def stepName (k : Int) : ByteArray :=
  if k = 0 then ⟨#[110, 111, 110, 101]⟩ else
  if k = 1 then ⟨#[115, 116, 97, 114, 116]⟩ else
  if k = 2 then ⟨#[102, 111, 114, 109]⟩ else
  if k = 3 then ⟨#[116, 104, 114, 111, 119]⟩ else
  if k = 4 then ⟨#[115, 116, 97, 116, 101]⟩ else
  if k = 5 then ⟨#[112, 97, 116, 116, 101, 114, 110]⟩ else
  if k = 6 then ⟨#[101, 110, 100]⟩ else
  ⟨#[]⟩
set_option maxHeartbeats 2000000 in
theorem c_impl_StepName (k : Int) (w : World) : Calls Try.prog 11 #[.int .i64 k] w fun e w' => e = .returned (.string (stepName k)) ∧ Below w.heap.size w w' := by
  cases h : inB k 0 6
  · have hn : stepName k = ⟨#[]⟩ := by
      have h' : ¬ (0 ≤ k ∧ k ≤ 6) := fun c => by rw [inB_iff.2 c] at h; cases h
      unfold stepName
      rw [if_neg (by omega), if_neg (by omega), if_neg (by omega), if_neg (by omega), if_neg (by omega), if_neg (by omega), if_neg (by omega)]
    have HN := Lib.hid hn
    clear hn
    go_enter Try.func11, Try.ntmps11
    go_wp2_with (go_at_call 40; refine (c_impl_between _ _ _ _).mono ?_; rintro e w1 ⟨rfl, rfl⟩)
    go_ret
    exact ⟨by rw [HN.out]; rfl, by (repeat (first | exact Below.refl _ _ | (refine Below.tr ?_ (by assumption)) | (refine Below.al ?_ _) | (refine Below.dr ?_) | (refine Below.drN ?_ _)))⟩
  · have h' := inB_iff.1 h
    have hc : k = 0 ∨ k = 1 ∨ k = 2 ∨ k = 3 ∨ k = 4 ∨ k = 5 ∨ k = 6 := by omega
    clear h'
    rcases hc with rfl | rfl | rfl | rfl | rfl | rfl | rfl
    all_goals
      go_enter Try.func11, Try.ntmps11
      go_wp2_with (go_at_call 40; refine (c_impl_between _ _ _ _).mono ?_; rintro e w1 ⟨rfl, rfl⟩)
      go_ret
      exact ⟨rfl, by (repeat (first | exact Below.refl _ _ | (refine Below.tr ?_ (by assumption)) | (refine Below.al ?_ _) | (refine Below.dr ?_) | (refine Below.drN ?_ _)))⟩
set_option maxHeartbeats 2000000 in
theorem c_spec_StepName (k : Int) (w : World) : Calls Try.prog 10 #[.int .i64 k] w fun e w' => e = .returned (.string (stepName k)) ∧ Below w.heap.size w w' := by
  cases h : inB k 0 6
  · have hn : stepName k = ⟨#[]⟩ := by
      have h' : ¬ (0 ≤ k ∧ k ≤ 6) := fun c => by rw [inB_iff.2 c] at h; cases h
      unfold stepName
      rw [if_neg (by omega), if_neg (by omega), if_neg (by omega), if_neg (by omega), if_neg (by omega), if_neg (by omega), if_neg (by omega)]
    have HN := Lib.hid hn
    clear hn
    go_enter Try.func10, Try.ntmps10
    go_wp2_with (go_at_call 39; refine (c_spec_l00In _ _ _ _).mono ?_; rintro e w1 ⟨rfl, rfl⟩)
    go_ret
    exact ⟨by rw [HN.out]; rfl, by (repeat (first | exact Below.refl _ _ | (refine Below.tr ?_ (by assumption)) | (refine Below.al ?_ _) | (refine Below.dr ?_) | (refine Below.drN ?_ _)))⟩
  · have h' := inB_iff.1 h
    have hc : k = 0 ∨ k = 1 ∨ k = 2 ∨ k = 3 ∨ k = 4 ∨ k = 5 ∨ k = 6 := by omega
    clear h'
    rcases hc with rfl | rfl | rfl | rfl | rfl | rfl | rfl
    all_goals
      go_enter Try.func10, Try.ntmps10
      go_wp2_with (go_at_call 39; refine (c_spec_l00In _ _ _ _).mono ?_; rintro e w1 ⟨rfl, rfl⟩)
      go_ret
      exact ⟨rfl, by (repeat (first | exact Below.refl _ _ | (refine Below.tr ?_ (by assumption)) | (refine Below.al ?_ _) | (refine Below.dr ?_) | (refine Below.drN ?_ _)))⟩
namespace fnExactStepName
theorem walk (v0 : Value) (w : World) (a0 : Arg_int64 w v0) : Calls Try.prog 3 #[v0] w fun e w' => e = .returned (.bool true) ∧ Below w.heap.size w w' := by
  obtain ⟨k, rfl, _, _⟩ := a0
  go_enter Try.func3, Try.ntmps3
  go_wp2_with (first | (go_at_call 10; refine (c_spec_StepName _ _).mono ?_; rintro e w1 ⟨rfl, hb⟩) | (go_at_call 11; refine (c_impl_StepName _ _).mono ?_; rintro e w1 ⟨rfl, hb2⟩))
  go_ret
  exact ⟨rfl, by (repeat (first | exact Below.refl _ _ | (refine Below.tr ?_ (by assumption)) | (refine Below.al ?_ _) | (refine Below.dr ?_) | (refine Below.drN ?_ _)))⟩
theorem own : ownKnob Try.prog.godebug = none := by kernel_rfl
theorem laidOut : laidOutB Try.prog = true := by kernel_rfl
set_option maxRecDepth 100000 in
theorem lifted (os : Os) (started : os.Started) (H : Type) (enc : TypeId × Value → H) :
    ReturnsInHanded {} Try.checked os 3 .any (Rows.fnExactStepNameSpec.pre6 enc Try.prog Try.f3 Rows.fnExactStepNameRow.domain false) (Rows.fnExactStepNameSpec.post enc Try.prog Try.f3 false true false false) := by
  refine returnsInHanded_of_change (C := Try.checked) own started (by kernel_rfl) Try.func3
    (ChangeSpec.witness6 (enc := enc) (C := Try.checked) false ⟨#[], #[.int .i64 0], []⟩ 8 (by kernel_rfl) (by kernel_rfl) (by kernel_rfl) (by kernel_rfl)) ?_
  intro W base args ds gs before hval0 hW hcnd _
  have hval : ∀ (j : Nat) t v, Try.f3.params[j]? = some t → args[j]? = some v → Value.okWide Try.prog W .any base t v := hval0
  have hW' := hW
  obtain ⟨p, q, hA0, hV, rfl, hfz, hnd⟩ := hW
  have hA : DataW.TrodAll enc Try.prog W 0 (fun _ => true) true Try.f3.params.toList args.toList ds p := hA0
  rw [Try.params3] at hA hval
  obtain ⟨v0, vs0, d0, ds0, p0, q0, hargs, rfl, rfl, h0, r0⟩ := trodAll_cons hA
  obtain ⟨rfl, rfl, rfl⟩ := trodAll_nil r0
  obtain rfl : args = #[v0] := by cases args; simp_all
  obtain ⟨rfl, rfl⟩ := trodVars_none hV
  have k0 := h0
  have lt0 : ∀ x ∈ p0, x.block < W.heap.size := by obtain ⟨m, hm⟩ := k0; exact DataW.trod_lt m _ _ _ hm
  have a0 := open_int64 (hval 0 2 v0 rfl rfl) h0
  clear hA0 hval0
  refine (walk v0 W a0).mono fun e W' ⟨he, bel⟩ => ?_
  subst he
  exact ⟨_, rfl, _, _, _, [], _, [], hW', trodAll_mk1 (shut_bool Try.underlying4 _), (trodAll_cons_mk (Below.trod laidOut (by kernel_rfl) (of_decide_eq_true (by kernel_rfl)) k0 bel lt0) trodAll_mk0), rfl, bel.frame _, fun h => by cases h⟩
theorem over : Rows.fnExactStepNameRow.holds Try.pinned (OpenSpec.ofChange Rows.fnExactStepNameSpec) :=
  OpenClaim.holds_of_wide 3 Try.f3 rfl rfl rfl rfl rfl rfl rfl ⟨rfl, rfl, rfl, rfl, rfl⟩ rfl rfl rfl rfl rfl (by kernel_rfl) Try.func3 (by kernel_rfl)
    (of_decide_eq_true (by kernel_rfl)) (by unfold Func.isWrapper; first | (rw [if_pos (by decide +kernel)]; kernel_rfl) | (rw [if_neg (by decide +kernel)]; exact ⟨rfl, rfl⟩))
    (fun os started H enc _ => lifted os started H enc)
theorem proved : Rows.FnExactStepNameSaid := over
end fnExactStepName
end Go.Proofs.Ytcohceopahhacaa
