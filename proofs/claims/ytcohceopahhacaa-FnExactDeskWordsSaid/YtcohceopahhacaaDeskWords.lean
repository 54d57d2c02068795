/- The law FnExactDeskWords returns true. No condition. -/
import Derived.Test.YtcohceopahhacaaLawS
import Derived.Test.YtcohceopahhacaaArgs
namespace Go.Proofs.Ytcohceopahhacaa
open Go.ChangeShapes Go.WideShapes Go.ChangeAt Go.RowKit
set_option linter.unusedVariables false
def deskWords : List ByteArray := [⟨#[98, 114, 105, 100, 103, 101]⟩, ⟨#[99, 97, 110, 111, 110]⟩, ⟨#[99, 111, 117, 110, 116]⟩, ⟨#[100, 117, 97, 108]⟩, ⟨#[100, 119, 101, 108, 108]⟩, ⟨#[101, 110, 116, 114, 121]⟩, ⟨#[101, 120, 105, 116]⟩, ⟨#[102, 114, 97, 109, 101]⟩, ⟨#[104, 97, 110, 100, 115]⟩, ⟨#[110, 101, 97, 114]⟩, ⟨#[111, 114, 98, 105, 116, 115]⟩, ⟨#[112, 97, 114, 116, 115]⟩, ⟨#[112, 97, 116, 116, 101, 114, 110]⟩, ⟨#[112, 114, 111, 112, 115]⟩, ⟨#[114, 97, 105, 115, 101]⟩, ⟨#[114, 101, 118, 101, 114, 115, 101]⟩, ⟨#[114, 111, 116, 97, 116, 101]⟩, ⟨#[115, 104, 105, 102, 116]⟩, ⟨#[115, 104, 111, 119]⟩, ⟨#[115, 116, 97, 116, 101]⟩, ⟨#[115, 119, 97, 112]⟩, ⟨#[116, 105, 109, 105, 110, 103]⟩, ⟨#[119, 105, 100, 116, 104]⟩]
theorem wordsMade (w : World) (cs : Array Value) (hc : cs.toList = deskWords.flatMap rowT) : OwnT w.heap.size (w.heap.size + 1) (w.alloc (.cells cs 9)) (.slice (some ⟨w.heap.size, 0, none⟩) 23 23) deskWords := by
  refine ⟨?_, fun k hk => ?_⟩
  · rw [← hc]
    have h : cs.size = 23 := by have h1 : cs.toList.length = 23 := (by rw [hc]; rfl); simpa using h1
    exact World.ownsRow_lit w cs 23 (Nat.le_refl _) (by decide) (by omega)
  · simp only [Value.ownBlock, Option.some.injEq] at hk
    omega
set_option maxRecDepth 100000 in
theorem c_impl_DeskWords (w : World) : Calls Try.prog 13 #[] w fun e w' => ∃ v, e = .returned v ∧ OwnT w.heap.size w'.heap.size w' v deskWords ∧ Below w.heap.size w w' := by
  go_enter Try.func13, Try.ntmps13
  go_wp2
  go_ret
  exact ⟨_, rfl, (wordsMade w _ rfl).tight, by (repeat (first | (with_reducible assumption) | (with_reducible exact Below.refl _ _) | (with_reducible refine Below.setCell ?_ (by first | (simp; done) | (simp; omega)) _) | (with_reducible refine Below.al ?_ _) | (with_reducible refine Below.dr ?_) | (with_reducible refine Below.drN ?_ _) | (with_reducible refine Below.tr ?_ (by with_reducible assumption))))⟩
set_option maxRecDepth 100000 in
theorem c_spec_l28Words (w : World) : Calls Try.prog 41 #[] w fun e w' => ∃ v, e = .returned v ∧ OwnT w.heap.size w'.heap.size w' v deskWords ∧ Below w.heap.size w w' := by
  go_enter Try.func41, Try.ntmps41
  go_wp2
  go_ret
  exact ⟨_, rfl, (wordsMade w _ rfl).tight, by (repeat (first | (with_reducible assumption) | (with_reducible exact Below.refl _ _) | (with_reducible refine Below.setCell ?_ (by first | (simp; done) | (simp; omega)) _) | (with_reducible refine Below.al ?_ _) | (with_reducible refine Below.dr ?_) | (with_reducible refine Below.drN ?_ _) | (with_reducible refine Below.tr ?_ (by with_reducible assumption))))⟩
theorem c_spec_DeskWords (w : World) : Calls Try.prog 12 #[] w fun e w' => ∃ v, e = .returned v ∧ OwnT w.heap.size w'.heap.size w' v deskWords ∧ Below w.heap.size w w' := by
  go_enter Try.func12, Try.ntmps12
  go_wp2_with (go_at_call 41; refine (c_spec_l28Words _).mono ?_; rintro e w1 ⟨v, rfl, ho, hb⟩)
  go_ret
  exact ⟨v, rfl, ho, hb⟩
namespace fnExactDeskWords
set_option maxHeartbeats 4000000 in
theorem walk_gen (X : List ByteArray) (hX : X.length ≤ 1000000)
    (hs : ∀ w, Calls Try.prog 12 #[] w fun e w' => ∃ v, e = .returned v ∧ OwnT w.heap.size w'.heap.size w' v X ∧ Below w.heap.size w w')
    (hi : ∀ w, Calls Try.prog 13 #[] w fun e w' => ∃ v, e = .returned v ∧ OwnT w.heap.size w'.heap.size w' v X ∧ Below w.heap.size w w') (w : World) :
    Calls Try.prog 4 #[] w fun e w' => e = .returned (.bool true) ∧ Below w.heap.size w w' := by
  have HS := Lib.hid hs
  have HI := Lib.hid hi
  clear hs hi
  go_enter Try.func4, Try.ntmps4
  go_wp2_with fail
  refine (HS.out _).mono ?_; rintro e w1 ⟨v0, rfl, ho0, hb1⟩
  go_wp2_with fail
  refine (HI.out _).mono ?_; rintro e w2 ⟨v1, rfl, ho1, hb2⟩
  go_wp2_with fail
  refine (c_laws_eqStringS X _ _ _ (OwnRow.rd rowT_len ho1) (OwnRow.rd rowT_len (ho0.below hb2))).mono ?_; rintro e w3 ⟨rfl, hb3⟩
  go_wp2_with fail
  have hs1 := hb1.size
  have hs2 := hb2.size
  have hs3 := hb3.size
  refine (c_laws_markStringS w1.heap.size w2.heap.size X 1 _ _ (ho1.below hb3) hs3 (by omega) (by omega)).mono ?_; rintro e w4 ⟨rfl, ho4, hu4⟩
  have hr0 := ((ho0.below hb2).below hb3).upd hu4 (Or.inl (Nat.le_refl _))
  go_wp2_with fail
  refine (c_laws_heldStringS X.length 1 _ _ (OwnRow.rd rowT_len ho4) (by omega) (by omega)).mono ?_; rintro e w5 ⟨rfl, hb5⟩
  go_wp2_with fail
  refine (HI.out _).mono ?_; rintro e w6 ⟨v2, rfl, ho2, hb6⟩
  go_wp2_with fail
  refine (c_laws_eqStringS X _ _ _ (OwnRow.rd rowT_len ho2) (OwnRow.rd rowT_len ((hr0.below hb5).below hb6))).mono ?_; rintro e w7 ⟨rfl, hb7⟩
  go_wp2_with fail
  refine (c_laws_heldStringS X.length 1 _ _ (OwnRow.rd rowT_len (((ho4.below hb5).below hb6).below hb7)) (by omega) (by omega)).mono ?_; rintro e w8 ⟨rfl, hb8⟩
  go_wp2
  go_ret
  exact ⟨rfl, (((((((Below.refl _ _).tr hb1).tr hb2).tr hb3).trans (hu4.below hs1 (by omega))).tr hb5).tr hb6 |>.tr hb7).tr hb8⟩
theorem walk (w : World) : Calls Try.prog 4 #[] w fun e w' => e = .returned (.bool true) ∧ Below w.heap.size w w' :=
  walk_gen deskWords (by decide) c_spec_DeskWords c_impl_DeskWords w
theorem own : ownKnob Try.prog.godebug = none := by kernel_rfl
theorem laidOut : laidOutB Try.prog = true := by kernel_rfl
set_option maxRecDepth 100000 in
theorem lifted (os : Os) (started : os.Started) (H : Type) (enc : TypeId × Value → H) :
    ReturnsInHanded {} Try.checked os 4 .any (Rows.fnExactDeskWordsSpec.pre6 enc Try.prog Try.f4 Rows.fnExactDeskWordsRow.domain false) (Rows.fnExactDeskWordsSpec.post enc Try.prog Try.f4 false true false false) := by
  refine returnsInHanded_of_change (C := Try.checked) own started (by kernel_rfl) Try.func4
    (ChangeSpec.witness6 (enc := enc) (C := Try.checked) false ⟨#[], #[], []⟩ 8 (by kernel_rfl) (by kernel_rfl) (by kernel_rfl) (by kernel_rfl)) ?_
  intro W base args ds gs before hval0 hW hcnd _
  have hval : ∀ (j : Nat) t v, Try.f4.params[j]? = some t → args[j]? = some v → Value.okWide Try.prog W .any base t v := hval0
  have hW' := hW
  obtain ⟨p, q, hA0, hV, rfl, hfz, hnd⟩ := hW
  have hA : DataW.TrodAll enc Try.prog W 0 (fun _ => true) true Try.f4.params.toList args.toList ds p := hA0
  rw [Try.params4] at hA hval
  obtain ⟨hargs, rfl, rfl⟩ := trodAll_nil hA
  obtain rfl : args = #[] := by cases args; simp_all
  obtain ⟨rfl, rfl⟩ := trodVars_none hV
  clear hA0 hval0
  refine (walk  W ).mono fun e W' ⟨he, bel⟩ => ?_
  subst he
  exact ⟨_, rfl, _, _, _, [], _, [], hW', trodAll_mk1 (shut_bool Try.underlying4 _), trodAll_mk0, rfl, bel.frame _, fun h => by cases h⟩
theorem over : Rows.fnExactDeskWordsRow.holds Try.pinned (OpenSpec.ofChange Rows.fnExactDeskWordsSpec) :=
  OpenClaim.holds_of_wide 4 Try.f4 rfl rfl rfl rfl rfl rfl rfl ⟨rfl, rfl, rfl, rfl, rfl⟩ rfl rfl rfl rfl rfl (by kernel_rfl) Try.func4 (by kernel_rfl)
    (of_decide_eq_true (by kernel_rfl)) (by unfold Func.isWrapper; first | (rw [if_pos (by decide +kernel)]; kernel_rfl) | (rw [if_neg (by decide +kernel)]; exact ⟨rfl, rfl⟩))
    (fun os started H enc _ => lifted os started H enc)
theorem proved : Rows.FnExactDeskWordsSaid := over
end fnExactDeskWords
end Go.Proofs.Ytcohceopahhacaa
