/- The law FnExactArcsOf returns true for all int64s. No condition. -/
import Derived.Test.YtggffkklfdpmkaaLawA
import Derived.Test.YtggffkklfdpmkaaArcCount
namespace Go.Proofs.Ytggffkklfdpmkaa
open Go.ChangeShapes Go.WideShapes Go.ChangeAt Go.RowKit
set_option linter.unusedVariables false
def arcsX (n h : Int) : List (Int × Int × Int) := bif graphC n h == 0 then arcsL (maskL n h) h else []
theorem arcsX_len (n h : Int) : (arcsX n h).length ≤ 1000000 := by
  unfold arcsX
  rcases graphC_cases n h with hc | hc
  · rw [hc]; exact arcs_len n h (graphC_ok hc).1
  · rw [hc]; simp
theorem c_impl_ArcsOf (n h : Int) (w : World) :
    Calls Try.prog 21 #[.int .i64 n, .int .i64 h] w fun e w' => ∃ v, e = .returned (.tuple #[v, .int .i64 (graphC n h)]) ∧ OwnA w.heap.size w'.heap.size w' v (arcsX n h) ∧ Below w.heap.size w w' := by
  rcases graphC_cases n h with hc | hc
  · have hk := graphC_ok hc
    have HA : Hid (arcsX n h = arcsL (maskL n h) h) := by unfold Hid arcsX; rw [hc]; rfl
    have HC := Lib.hid hc
    have ht : (graphC n h != 0) = false := by simp [hc]
    clear hc
    go_enter Try.func21, Try.ntmps21
    go_wp2_with (first | (go_at_call 59; refine (c_impl_graphCode _ _ _).mono ?_; rintro e w1 ⟨rfl, rfl⟩) | (go_at_call 60; refine (c_impl_arcsOf n h _ hk.1).mono ?_; rintro e w1 ⟨v, rfl, ho, hb⟩))
    go_ret2
    exact ⟨v, by rw [HC.out]; rfl, by rw [HA.out]; exact ho, hb⟩
  · have HA : Hid (arcsX n h = []) := by unfold Hid arcsX; rw [hc]; rfl
    have ht : (graphC n h != 0) = true := by simp [hc]
    clear hc
    go_enter Try.func21, Try.ntmps21
    go_wp2_with (go_at_call 59; refine (c_impl_graphCode _ _ _).mono ?_; rintro e w1 ⟨rfl, rfl⟩)
    go_ret2
    exact ⟨_, rfl, by rw [HA.out]; exact OwnRow.nil _ rfl, by (repeat (first | (with_reducible assumption) | (with_reducible exact Below.refl _ _) | (with_reducible refine Below.setCell ?_ (by first | (simp; done) | (simp; omega)) _) | (with_reducible refine Below.al ?_ _) | (with_reducible refine Below.dr ?_) | (with_reducible refine Below.drN ?_ _) | (with_reducible refine Below.tr ?_ (by with_reducible assumption))))⟩
theorem c_spec_ArcsOf (n h : Int) (w : World) :
    Calls Try.prog 31 #[.int .i64 n, .int .i64 h] w fun e w' => ∃ v, e = .returned (.tuple #[v, .int .i64 (graphC n h)]) ∧ OwnA w.heap.size w'.heap.size w' v (arcsX n h) ∧ Below w.heap.size w w' := by
  rcases graphC_cases n h with hc | hc
  · have hk := graphC_ok hc
    have HA : Hid (arcsX n h = arcsL (maskL n h) h) := by unfold Hid arcsX; rw [hc]; rfl
    have HC := Lib.hid hc
    have ht : (graphC n h != 0) = false := by simp [hc]
    clear hc
    go_enter Try.func31, Try.ntmps31
    go_wp2_with (first | (go_at_call 56; refine (c_spec_l09Code _ _ _).mono ?_; rintro e w1 ⟨rfl, rfl⟩) | (go_at_call 58; refine (c_spec_l09Masks n h _ (by omega)).mono ?_; rintro e w1 ⟨v1, rfl, ho1, hb1⟩) | (go_at_call 57; refine (c_spec_l09Arcs n h _ _ hk.1 ho1.rd).mono ?_; rintro e w2 ⟨v, rfl, ho, hb⟩))
    go_ret2
    exact ⟨v, by rw [HC.out]; rfl, by rw [HA.out]; exact ho.wide hb1.size (Nat.le_refl _), by (repeat (first | (with_reducible assumption) | (with_reducible exact Below.refl _ _) | (with_reducible refine Below.setCell ?_ (by first | (simp; done) | (simp; omega)) _) | (with_reducible refine Below.al ?_ _) | (with_reducible refine Below.dr ?_) | (with_reducible refine Below.drN ?_ _) | (with_reducible refine Below.tr ?_ (by with_reducible assumption))))⟩
  · have HA : Hid (arcsX n h = []) := by unfold Hid arcsX; rw [hc]; rfl
    have ht : (graphC n h != 0) = true := by simp [hc]
    clear hc
    go_enter Try.func31, Try.ntmps31
    go_wp2_with (go_at_call 56; refine (c_spec_l09Code _ _ _).mono ?_; rintro e w1 ⟨rfl, rfl⟩)
    go_ret2
    exact ⟨_, rfl, by rw [HA.out]; exact OwnRow.nil _ rfl, by (repeat (first | (with_reducible assumption) | (with_reducible exact Below.refl _ _) | (with_reducible refine Below.setCell ?_ (by first | (simp; done) | (simp; omega)) _) | (with_reducible refine Below.al ?_ _) | (with_reducible refine Below.dr ?_) | (with_reducible refine Below.drN ?_ _) | (with_reducible refine Below.tr ?_ (by with_reducible assumption))))⟩
namespace fnExactArcsOf
set_option maxHeartbeats 4000000 in
theorem walk_gen (n h c : Int) (X : List (Int × Int × Int)) (hX : X.length ≤ 1000000)
    (hs : ∀ w, Calls Try.prog 31 #[.int .i64 n, .int .i64 h] w fun e w' => ∃ v, e = .returned (.tuple #[v, .int .i64 c]) ∧ OwnA w.heap.size w'.heap.size w' v X ∧ Below w.heap.size w w')
    (hi : ∀ w, Calls Try.prog 21 #[.int .i64 n, .int .i64 h] w fun e w' => ∃ v, e = .returned (.tuple #[v, .int .i64 c]) ∧ OwnA w.heap.size w'.heap.size w' v X ∧ Below w.heap.size w w') (w : World) :
    Calls Try.prog 7 #[.int .i64 n, .int .i64 h] w fun e w' => e = .returned (.bool true) ∧ Below w.heap.size w w' := by
  have HS := Lib.hid hs
  have HI := Lib.hid hi
  clear hs hi
  have tc : (c != c) = false := by simp
  go_enter Try.func7, Try.ntmps7
  go_wp2_with fail
  refine (HS.out _).mono ?_; rintro e w1 ⟨v0, rfl, ho0, hb1⟩
  go_wp2_with fail
  refine (HI.out _).mono ?_; rintro e w2 ⟨v1, rfl, ho1, hb2⟩
  go_wp2_with fail
  refine (c_laws_eqArcS X _ _ _ (OwnRow.rd rowA_len ho1) (OwnRow.rd rowA_len (ho0.below hb2))).mono ?_; rintro e w3 ⟨rfl, hb3⟩
  go_wp2_with fail
  refine (c_laws_markArcS w1.heap.size w2.heap.size X 1 _ _ (ho1.below hb3) (by omega) (by omega)).mono ?_; rintro e w4 ⟨rfl, ho4, hu4⟩
  have hr0 := ((ho0.below hb2).below hb3).upd hu4 (Or.inl (Nat.le_refl _))
  have hs1 := hb1.size
  have hs2 := hb2.size
  have hs3 := hb3.size
  go_wp2_with fail
  refine (c_laws_heldArcS X.length 1 _ _ (OwnRow.rd rowA_len ho4) (by omega) (by omega)).mono ?_; rintro e w5 ⟨rfl, rfl⟩
  have t1 : ¬ ((1 + 3 * (X.length : Int)) < 0) := by omega
  have t2 : ((1 + 3 * (X.length : Int)) != (1 + 3 * (X.length : Int))) = false := by simp
  go_wp2_with fail
  refine (HI.out _).mono ?_; rintro e w6 ⟨v2, rfl, ho2, hb6⟩
  go_wp2_with fail
  refine (c_laws_eqArcS X _ _ _ (OwnRow.rd rowA_len ho2) (OwnRow.rd rowA_len (hr0.below hb6))).mono ?_; rintro e w7 ⟨rfl, hb7⟩
  go_wp2_with fail
  refine (c_laws_heldArcS X.length 1 _ _ (OwnRow.rd rowA_len ((ho4.below hb6).below hb7)) (by omega) (by omega)).mono ?_; rintro e w8 ⟨rfl, rfl⟩
  go_wp2
  go_ret
  exact ⟨rfl, (((((Below.refl _ _).tr hb1).tr hb2).tr hb3).trans (hu4.below hs1 (by omega))).tr hb6 |>.tr hb7⟩
theorem walk (v0 v1 : Value) (w : World) (p0 : Arg_int64 w v0) (p1 : Arg_int64 w v1) : Calls Try.prog 7 #[v0, v1] w fun e w' => e = .returned (.bool true) ∧ Below w.heap.size w w' := by
  obtain ⟨n, rfl, _, _⟩ := p0
  obtain ⟨h, rfl, _, _⟩ := p1
  exact walk_gen n h _ _ (arcsX_len n h) (c_spec_ArcsOf n h) (c_impl_ArcsOf n h) w
theorem own : ownKnob Try.prog.godebug = none := by kernel_rfl
theorem laidOut : laidOutB Try.prog = true := by kernel_rfl
set_option maxRecDepth 100000 in
theorem lifted (os : Os) (started : os.Started) (H : Type) (enc : TypeId × Value → H) :
    ReturnsInHanded {} Try.checked os 7 .any (Rows.fnExactArcsOfSpec.pre6 enc Try.prog Try.f7 Rows.fnExactArcsOfRow.domain false) (Rows.fnExactArcsOfSpec.post enc Try.prog Try.f7 false true false false) := by
  refine returnsInHanded_of_change (C := Try.checked) own started (by kernel_rfl) Try.func7
    (ChangeSpec.witness6 (enc := enc) (C := Try.checked) false ⟨#[], #[.int .i64 0, .int .i64 0], []⟩ 8 (by kernel_rfl) (by kernel_rfl) (by kernel_rfl) (by kernel_rfl)) ?_
  intro W base args ds gs before hval0 hW hcnd _
  have hval : ∀ (j : Nat) t v, Try.f7.params[j]? = some t → args[j]? = some v → Value.okWide Try.prog W .any base t v := hval0
  have hW' := hW
  obtain ⟨p, q, hA0, hV, rfl, hfz, hnd⟩ := hW
  have hA : DataW.TrodAll enc Try.prog W 0 (fun _ => true) true Try.f7.params.toList args.toList ds p := hA0
  rw [Try.params7] at hA hval
  obtain ⟨v0, vs0, d0, ds0, p0, q0, hargs, rfl, rfl, h0, r0⟩ := trodAll_cons hA
  obtain ⟨v1, vs1, d1, ds1, p1, q1, rfl, rfl, rfl, h1, r1⟩ := trodAll_cons r0
  obtain ⟨rfl, rfl, rfl⟩ := trodAll_nil r1
  obtain rfl : args = #[v0, v1] := by cases args; simp_all
  obtain ⟨rfl, rfl⟩ := trodVars_none hV
  have k0 := h0
  have lt0 : ∀ x ∈ p0, x.block < W.heap.size := by obtain ⟨m, hm⟩ := k0; exact DataW.trod_lt m _ _ _ hm
  have a0 := open_int64 (hval 0 2 v0 rfl rfl) h0
  have k1 := h1
  have lt1 : ∀ x ∈ p1, x.block < W.heap.size := by obtain ⟨m, hm⟩ := k1; exact DataW.trod_lt m _ _ _ hm
  have a1 := open_int64 (hval 1 2 v1 rfl rfl) h1
  clear hA0 hval0
  refine (walk v0 v1 W a0 a1).mono fun e W' ⟨he, bel⟩ => ?_
  subst he
  exact ⟨_, rfl, _, _, _, [], _, [], hW', trodAll_mk1 (shut_bool Try.underlying4 _), (trodAll_cons_mk (Below.trod laidOut (by kernel_rfl) (of_decide_eq_true (by kernel_rfl)) k0 bel lt0) (trodAll_cons_mk (Below.trod laidOut (by kernel_rfl) (of_decide_eq_true (by kernel_rfl)) k1 bel lt1) trodAll_mk0)), rfl, bel.frame _, fun h => by cases h⟩
theorem over : Rows.fnExactArcsOfRow.holds Try.pinned (OpenSpec.ofChange Rows.fnExactArcsOfSpec) :=
  OpenClaim.holds_of_wide 7 Try.f7 rfl rfl rfl rfl rfl rfl rfl ⟨rfl, rfl, rfl, rfl, rfl⟩ rfl rfl rfl rfl rfl (by kernel_rfl) Try.func7 (by kernel_rfl)
    (of_decide_eq_true (by kernel_rfl)) (by unfold Func.isWrapper; first | (rw [if_pos (by decide +kernel)]; kernel_rfl) | (rw [if_neg (by decide +kernel)]; exact ⟨rfl, rfl⟩))
    (fun os started H enc _ => lifted os started H enc)
theorem proved : Rows.FnExactArcsOfSaid := over
end fnExactArcsOf
end Go.Proofs.Ytggffkklfdpmkaa
