/- The law FnExactArcCount returns true for all int64s. No condition. -/
import Derived.Test.YtggffkklfdpmkaaArcs
namespace Go.Proofs.Ytggffkklfdpmkaa
open Go.ChangeShapes Go.WideShapes Go.ChangeAt Go.RowKit
set_option linter.unusedVariables false
theorem graphC_ok {n h : Int} (hc : graphC n h = 0) : (1 ≤ h ∧ h ≤ 10) ∧ (0 ≤ n ∧ n ≤ h) := by
  unfold graphC at hc
  cases h1 : inB h 1 10
  · rw [h1] at hc; simp at hc
  · cases h2 : inB n 0 h
    · rw [h1, h2] at hc; simp at hc
    · exact ⟨inB_iff.1 h1, inB_iff.1 h2⟩
theorem graphC_cases (n h : Int) : graphC n h = 0 ∨ graphC n h = 2 := by
  unfold graphC
  cases (inB h 1 10 && inB n 0 h)
  · right; rfl
  · left; rfl
def arcCnt (n h : Int) : Int := bif graphC n h == 0 then ((arcsL (maskL n h) h).length : Int) else 0
theorem arcs_len (n h : Int) (hh : 1 ≤ h ∧ h ≤ 10) : (arcsL (maskL n h) h).length ≤ 1000000 := by
  have h1 := arcsTo_len (maskL n h) h (maskL n h).length (by omega)
  have h2 := maskL_len n h hh
  unfold arcsL; omega
theorem c_impl_ArcCount (n h : Int) (w : World) :
    Calls Try.prog 16 #[.int .i64 n, .int .i64 h] w fun e w' => e = .returned (.tuple #[.int .i64 (arcCnt n h), .int .i64 (graphC n h)]) ∧ Below w.heap.size w w' := by
  rcases graphC_cases n h with hc | hc
  · have hk := graphC_ok hc
    have HA : Hid (arcCnt n h = ((arcsL (maskL n h) h).length : Int)) := by unfold Hid arcCnt; rw [hc]; rfl
    have hl := arcs_len n h hk.1
    have HC := Lib.hid hc
    have ht : (graphC n h != 0) = false := by simp [hc]
    clear hc
    go_enter Try.func16, Try.ntmps16
    go_wp2_with (first | (go_at_call 59; refine (c_impl_graphCode _ _ _).mono ?_; rintro e w1 ⟨rfl, rfl⟩) | (go_at_call 60; refine (c_impl_arcsOf n h _ hk.1).mono ?_; rintro e w1 ⟨v, rfl, ho, hb⟩; obtain ⟨a1, cap1, rfl, _, _⟩ := OwnRow.rd rowA_len ho))
    go_ret2
    exact ⟨by rw [HA.out, HC.out]; rfl, by (repeat (first | (with_reducible assumption) | (with_reducible exact Below.refl _ _) | (with_reducible refine Below.setCell ?_ (by first | (simp; done) | (simp; omega)) _) | (with_reducible refine Below.al ?_ _) | (with_reducible refine Below.dr ?_) | (with_reducible refine Below.drN ?_ _) | (with_reducible refine Below.tr ?_ (by with_reducible assumption))))⟩
  · have HA : Hid (arcCnt n h = 0) := by unfold Hid arcCnt; rw [hc]; rfl
    have HC := Lib.hid hc
    have ht : (graphC n h != 0) = true := by simp [hc]
    clear hc
    go_enter Try.func16, Try.ntmps16
    go_wp2_with (go_at_call 59; refine (c_impl_graphCode _ _ _).mono ?_; rintro e w1 ⟨rfl, rfl⟩)
    go_ret2
    exact ⟨by rw [HA.out]; rfl, by (repeat (first | (with_reducible assumption) | (with_reducible exact Below.refl _ _) | (with_reducible refine Below.setCell ?_ (by first | (simp; done) | (simp; omega)) _) | (with_reducible refine Below.al ?_ _) | (with_reducible refine Below.dr ?_) | (with_reducible refine Below.drN ?_ _) | (with_reducible refine Below.tr ?_ (by with_reducible assumption))))⟩
theorem c_spec_ArcCount (n h : Int) (w : World) :
    Calls Try.prog 15 #[.int .i64 n, .int .i64 h] w fun e w' => e = .returned (.tuple #[.int .i64 (arcCnt n h), .int .i64 (graphC n h)]) ∧ Below w.heap.size w w' := by
  rcases graphC_cases n h with hc | hc
  · have hk := graphC_ok hc
    have HA : Hid (arcCnt n h = ((arcsL (maskL n h) h).length : Int)) := by unfold Hid arcCnt; rw [hc]; rfl
    have hl := arcs_len n h hk.1
    have HC := Lib.hid hc
    have ht : (graphC n h != 0) = false := by simp [hc]
    clear hc
    go_enter Try.func15, Try.ntmps15
    go_wp2_with (first | (go_at_call 56; refine (c_spec_l09Code _ _ _).mono ?_; rintro e w1 ⟨rfl, rfl⟩) | (go_at_call 58; refine (c_spec_l09Masks n h _ (by omega)).mono ?_; rintro e w1 ⟨v1, rfl, ho1, hb1⟩) | (go_at_call 57; refine (c_spec_l09Arcs n h _ _ hk.1 ho1.rd).mono ?_; rintro e w2 ⟨v, rfl, ho, hb⟩; obtain ⟨a1, cap1, rfl, _, _⟩ := OwnRow.rd rowA_len ho))
    go_ret2
    exact ⟨by rw [HA.out, HC.out]; rfl, by (repeat (first | (with_reducible assumption) | (with_reducible exact Below.refl _ _) | (with_reducible refine Below.setCell ?_ (by first | (simp; done) | (simp; omega)) _) | (with_reducible refine Below.al ?_ _) | (with_reducible refine Below.dr ?_) | (with_reducible refine Below.drN ?_ _) | (with_reducible refine Below.tr ?_ (by with_reducible assumption))))⟩
  · have HA : Hid (arcCnt n h = 0) := by unfold Hid arcCnt; rw [hc]; rfl
    have HC := Lib.hid hc
    have ht : (graphC n h != 0) = true := by simp [hc]
    clear hc
    go_enter Try.func15, Try.ntmps15
    go_wp2_with (go_at_call 56; refine (c_spec_l09Code _ _ _).mono ?_; rintro e w1 ⟨rfl, rfl⟩)
    go_ret2
    exact ⟨by rw [HA.out]; rfl, by (repeat (first | (with_reducible assumption) | (with_reducible exact Below.refl _ _) | (with_reducible refine Below.setCell ?_ (by first | (simp; done) | (simp; omega)) _) | (with_reducible refine Below.al ?_ _) | (with_reducible refine Below.dr ?_) | (with_reducible refine Below.drN ?_ _) | (with_reducible refine Below.tr ?_ (by with_reducible assumption))))⟩
namespace fnExactArcCount
theorem walk (v0 v1 : Value) (w : World) (p0 : Arg_int64 w v0) (p1 : Arg_int64 w v1) : Calls Try.prog 3 #[v0, v1] w fun e w' => e = .returned (.bool true) ∧ Below w.heap.size w w' := by
  obtain ⟨n, rfl, _, _⟩ := p0
  obtain ⟨h, rfl, _, _⟩ := p1
  have t1 : (arcCnt n h != arcCnt n h) = false := by simp
  have t2 : (graphC n h != graphC n h) = false := by simp
  go_enter Try.func3, Try.ntmps3
  go_wp2_with (first | (go_at_call 15; refine (c_spec_ArcCount _ _ _).mono ?_; rintro e w1 ⟨rfl, hb⟩) | (go_at_call 16; refine (c_impl_ArcCount _ _ _).mono ?_; rintro e w2 ⟨rfl, hb2⟩))
  go_ret
  exact ⟨rfl, by (repeat (first | (with_reducible assumption) | (with_reducible exact Below.refl _ _) | (with_reducible refine Below.setCell ?_ (by first | (simp; done) | (simp; omega)) _) | (with_reducible refine Below.al ?_ _) | (with_reducible refine Below.dr ?_) | (with_reducible refine Below.drN ?_ _) | (with_reducible refine Below.tr ?_ (by with_reducible assumption))))⟩
theorem own : ownKnob Try.prog.godebug = none := by kernel_rfl
theorem laidOut : laidOutB Try.prog = true := by kernel_rfl
set_option maxRecDepth 100000 in
theorem lifted (os : Os) (started : os.Started) (H : Type) (enc : TypeId × Value → H) :
    ReturnsInHanded {} Try.checked os 3 .any (Rows.fnExactArcCountSpec.pre6 enc Try.prog Try.f3 Rows.fnExactArcCountRow.domain false) (Rows.fnExactArcCountSpec.post enc Try.prog Try.f3 false true false false) := by
  refine returnsInHanded_of_change (C := Try.checked) own started (by kernel_rfl) Try.func3
    (ChangeSpec.witness6 (enc := enc) (C := Try.checked) false ⟨#[], #[.int .i64 0, .int .i64 0], []⟩ 8 (by kernel_rfl) (by kernel_rfl) (by kernel_rfl) (by kernel_rfl)) ?_
  intro W base args ds gs before hval0 hW hcnd _
  have hval : ∀ (j : Nat) t v, Try.f3.params[j]? = some t → args[j]? = some v → Value.okWide Try.prog W .any base t v := hval0
  have hW' := hW
  obtain ⟨p, q, hA0, hV, rfl, hfz, hnd⟩ := hW
  have hA : DataW.TrodAll enc Try.prog W 0 (fun _ => true) true Try.f3.params.toList args.toList ds p := hA0
  rw [Try.params3] at hA hval
  obtain ⟨v0, vs0, d0, ds0, p0, q0, hargs, rfl, rfl, h0, r0⟩ := trodAll_cons hA
  obtain ⟨v1, vs1, d1, ds1, p1, q1, rfl, rfl, rfl, h1, r1⟩ := trodAll_cons r0
  obtain ⟨rfl, rfl, rfl⟩ := trodAll_nil r1
  obtain rfl : args = #[v0, v1] := by cases args; simp_all
  obtain ⟨rfl, rfl⟩ := trodVars_none hV
  have k0 := h0
  have lt0 : ∀ x ∈ p0, x.block < W.heap.size := by obtain ⟨m, hm⟩ := k0; exact DataW.trod_lt m _ _ _ hm
  have a0 := open_int64 (hval 0 2 v0 rfl rfl) h0
  have k1 := h1
  have lt1 : ∀ x ∈ p1, x.block < W.heap.size := by obtain ⟨m, hm⟩ := k1; exact DataW.trod_lt m _ _ _ hm
  have a1 := open_int64 (hval 1 2 v1 rfl rfl) h1
  clear hA0 hval0
  refine (walk v0 v1 W a0 a1).mono fun e W' ⟨he, bel⟩ => ?_
  subst he
  exact ⟨_, rfl, _, _, _, [], _, [], hW', trodAll_mk1 (shut_bool Try.underlying4 _), (trodAll_cons_mk (Below.trod laidOut (by kernel_rfl) (of_decide_eq_true (by kernel_rfl)) k0 bel lt0) (trodAll_cons_mk (Below.trod laidOut (by kernel_rfl) (of_decide_eq_true (by kernel_rfl)) k1 bel lt1) trodAll_mk0)), rfl, bel.frame _, fun h => by cases h⟩
theorem over : Rows.fnExactArcCountRow.holds Try.pinned (OpenSpec.ofChange Rows.fnExactArcCountSpec) :=
  OpenClaim.holds_of_wide 3 Try.f3 rfl rfl rfl rfl rfl rfl rfl ⟨rfl, rfl, rfl, rfl, rfl⟩ rfl rfl rfl rfl rfl (by kernel_rfl) Try.func3 (by kernel_rfl)
    (of_decide_eq_true (by kernel_rfl)) (by unfold Func.isWrapper; first | (rw [if_pos (by decide +kernel)]; kernel_rfl) | (rw [if_neg (by decide +kernel)]; exact ⟨rfl, rfl⟩))
    (fun os started H enc _ => lifted os started H enc)
theorem proved : Rows.FnExactArcCountSaid := over
end fnExactArcCount
end Go.Proofs.Ytggffkklfdpmkaa
