/- The law FnExactEventsOf returns true for all arguments. No condition. -/
import Derived.Test.YtgcmnpimkfmccaaEvX
import Derived.Test.YtgcmnpimkfmccaaLawE
import Derived.Test.YtgcmnpimkfmccaaArgsF
import Derived.Test.YtgcmnpimkfmccaaDesk
import Derived.Deep.RegionHeld3
namespace Go.Proofs.Ytgcmnpimkfmccaa.fnExactEventsOf
open Go.ChangeShapes Go.WideShapes Go.ChangeAt Go.RowKit
set_option linter.unusedVariables false
theorem evAt_sl {lo : Nat} {w : World} {v : Value} {X : List Ev} (h : EvAt lo w v X) : ∃ a cap, v = .slice a X.length cap := by
  rcases h with ⟨h1, h2⟩ | ⟨g, c, h1, -⟩
  · subst h2; exact ⟨none, 0, h1⟩
  · exact ⟨_, _, h1⟩
theorem evP_bd (p : List Int) (B D f t : Int) : (evP p B D f t).length ≤ 4000 := by
  unfold evP
  split
  · exact Nat.zero_le _
  · rename_i h
    split
    · exact Nat.zero_le _
    · rename_i h2
      have h0 : frCode p B D 0 f = 0 := by omega
      obtain ⟨hv, hvt, hx, ht⟩ := frCode_ok h0
      obtain ⟨hB, hD⟩ := validT_bd hvt
      have hin := inB_iff.1 (by simpa using h2 : inB t f (min (f + 400) 3000) = true)
      have hlen := evS_len p B D f t (t / B + 4).toNat
      have : t / B < 1501 := Int.ediv_lt_of_lt_mul (by omega) (by omega)
      omega
theorem mark1 (lo hi : Nat) (X : List Ev) (v : Value) (w : World) (h : EvR lo hi w v X) (hq2 : X.length ≤ 4000) :
    Calls Try.prog 25 #[v, .int .i64 1] w fun e w' => e = .returned (.int .i64 (1 + ((4 * X.length : Nat) : Int))) ∧ EvR lo hi w' v (marksE 1 X X.length) ∧ Upd lo hi w w' := by
  have h1 := c_laws_markEventS lo hi X 1 v w h (by omega) (by omega)
  rw [show (1 : Int) + 4 * (X.length : Int) = 1 + ((4 * X.length : Nat) : Int) by omega] at h1
  exact h1
theorem held1 (X : List Ev) (v : Value) (w : World) (h : RdRow 4 rowE w v (marksE 1 X X.length)) (hq2 : X.length ≤ 4000) :
    Calls Try.prog 26 #[v, .int .i64 1] w fun e w' => e = .returned (.int .i64 (1 + ((4 * X.length : Nat) : Int))) ∧ Below w.heap.size w w' := by
  have h1 := c_laws_heldEventS X 1 v w h (by omega) (by omega)
  rw [show (1 : Int) + 4 * (X.length : Int) = 1 + ((4 * X.length : Nat) : Int) by omega] at h1
  exact h1.mono (fun e w' h => ⟨h.1, h.2 ▸ Below.refl _ _⟩)
set_option maxHeartbeats 16000000 in
set_option maxRecDepth 100000 in
theorem walk_small (p : List Int) (B D f t : Int) (a1 : Option Addr) (cap1 : Nat) (w : World) (hr : RdI w (.slice a1 p.length cap1) p) (hn : p.length ≤ 1048576) :
    Calls Try.prog 4 #[.slice a1 p.length cap1, .agg #[.int .i64 B, .int .i64 D], .int .i64 f, .int .i64 t] w fun e w' => e = .returned (.bool true) ∧ Below w.heap.size w w' := by
  obtain ⟨W0, hW0, k0, k1, B0⟩ := oneState w 44 B D
  have HR : Hid (RdI W0 (.slice a1 p.length cap1) p) := Lib.hid (hr.below B0)
  have hL1 := evP_bd p B D f t
  obtain ⟨L, HL⟩ : ∃ L, Hid (evP p B D f t = L) := ⟨_, Lib.hid rfl⟩
  rw [HL.out] at hL1
  obtain ⟨C, HC⟩ : ∃ C, Hid (evC p B D f t = C) := ⟨_, Lib.hid rfl⟩
  have HS : Hid (∀ (u : Value) (w7 : World), RdI w7 u p → Calls Try.prog 18 #[u, .agg #[.int .i64 B, .int .i64 D], .int .i64 f, .int .i64 t] w7 fun e w' => ∃ a cap, e = .returned (.tuple #[.slice a L.length cap, .int .i64 C]) ∧ EvAt w7.heap.size w' (.slice a L.length cap) L ∧ Below w7.heap.size w7 w') := fun u w7 h7 => by
    have h := c_spec_EventsOf p B D f t u w7 h7
    rw [HL.out, HC.out] at h
    refine h.mono ?_
    rintro e w' ⟨v, rfl, ho, hb⟩
    obtain ⟨a, cap, rfl⟩ := evAt_sl ho
    exact ⟨a, cap, rfl, ho, hb⟩
  have HI : Hid (∀ (u : Value) (w7 : World), RdI w7 u p → Calls Try.prog 21 #[u, .agg #[.int .i64 B, .int .i64 D], .int .i64 f, .int .i64 t] w7 fun e w' => ∃ a cap, e = .returned (.tuple #[.slice a L.length cap, .int .i64 C]) ∧ EvAt w7.heap.size w' (.slice a L.length cap) L ∧ Below w7.heap.size w7 w') := fun u w7 h7 => by
    have h := c_impl_EventsOf p B D f t u w7 h7
    rw [HL.out, HC.out] at h
    refine h.mono ?_
    rintro e w' ⟨v, rfl, ho, hb⟩
    obtain ⟨a, cap, rfl⟩ := evAt_sl ho
    exact ⟨a, cap, rfl, ho, hb⟩
  have tc : (C != C) = false := by simp
  have hz0 : w.heap.size < W0.heap.size := World.block_lt_of_cell? _ _ k0
  have HRW := Lib.hid hr
  have HSM := Lib.hid hL1
  have hLm : L.length ≤ 9223372036854775807 := by omega
  obtain ⟨S, hS⟩ : ∃ S : Nat, 4 * L.length = S := ⟨_, rfl⟩
  have HM1 : Hid (∀ (lo hi : Nat) (v : Value) (w7 : World), EvR lo hi w7 v L → Calls Try.prog 25 #[v, .int .i64 1] w7 fun e w' => e = .returned (.int .i64 (1 + (S : Int))) ∧ EvR lo hi w' v (marksE 1 L L.length) ∧ Upd lo hi w7 w') := fun lo hi v w7 h7 => by
    have h := mark1 lo hi L v w7 h7 hL1
    rw [hS] at h; exact h
  have HH1 : Hid (∀ (v : Value) (w7 : World), RdRow 4 rowE w7 v (marksE 1 L L.length) → Calls Try.prog 26 #[v, .int .i64 1] w7 fun e w' => e = .returned (.int .i64 (1 + (S : Int))) ∧ Below w7.heap.size w7 w') := fun v w7 h7 => by
    have h := held1 L v w7 h7 hL1
    rw [hS] at h; exact h
  have hSb : S ≤ 16000 := by omega
  have hML : Hid ((marksE 1 L L.length).length ≤ 9223372036854775807) := Nat.le_trans (Nat.le_of_eq (mixV_len _ _ _ _)) hLm
  have HLm := Lib.hid hLm
  clear hr HL HC hL1 hS hLm
  go_enter Try.func4, Try.ntmps4
  go_wp2_with fail
  rw [← hW0]
  clear hW0
  have hRaa : RdI W0.drew (.slice a1 p.length cap1) p := HR.out
  have ne1a : ¬ W0.heap.size = w.heap.size := by omega
  have ne2a : ¬ w.heap.size = W0.heap.size := by omega
  go_region_held3 (fun w' => w'.cell? ⟨w.heap.size, 0, none⟩ = some (.int .i64 B) ∧ w'.cell? ⟨w.heap.size, 1, none⟩ = some (.int .i64 D))
    (go_keep)
    (first
      | ((go_at_call 19; refine (c_laws_toInt64S p _ _ (by exact hRaa) hn).mono ?_; rintro e w2a ⟨rfl, ho2a, hb2a⟩; have hb2a' := below_drew hb2a; have j0 := keepc hb2a' k0; have j1 := keepc hb2a' k1; have hr2a := ho2a.rd; have hz2a : W0.heap.size ≤ w2a.heap.size := hb2a'.size; have ne3a : ¬ w2a.heap.size = w.heap.size := (by omega); have ne4a : ¬ w.heap.size = w2a.heap.size := (by omega)))
      | ((go_at_call 20; refine (c_laws_toTiming B D _).mono ?_; rintro e w3a ⟨rfl, hb3a⟩; have l0 := keepc hb3a j0; have l1 := keepc hb3a j1; have hr3a := hr2a.below hb3a; have hz3a : w2a.heap.size ≤ w3a.heap.size := hb3a.size; have ne5a : ¬ w3a.heap.size = w.heap.size := (by omega); have ne6a : ¬ w.heap.size = w3a.heap.size := (by omega)))
      | ((go_at_call 18; refine (HS.out _ _ hr3a).mono ?_; rintro e W9a ⟨asa, csa, rfl, ho4a, hb4a⟩; have m0 := keepc hb4a l0; have m1 := keepc hb4a l1; have hz4a : w3a.heap.size ≤ W9a.heap.size := hb4a.size)))
  have B9a : Below W0.heap.size W0 W9a := (hb2a'.tr hb3a).tr hb4a
  have hrsa : RdRow 4 rowE W9a (.slice asa L.length csa) L := ho4a.rd HLm.out
  have hS9 := B9a.size
  have B9 : Below w.heap.size w W9a := B0.tr B9a
  have n0a := keepc B9a k0
  have n1a := keepc B9a k1
  have HS9 := Lib.hid hrsa
  have hwz : w.heap.size < W9a.heap.size := World.block_lt_of_cell? _ _ n0a
  have n0 := n0a
  have n1 := n1a
  clear hrsa ho4a ho2a hr2a hr3a j0 j1 l0 l1 m0 m1
  go_wp2_with fail
  refine (c_laws_toInt64S p _ _ (HRW.out.below B9) hn).mono ?_; rintro e w10 ⟨rfl, ho10, Q10⟩
  have hs10 := Q10.size
  have n0 := keepc Q10 n0a
  have n1 := keepc Q10 n1a
  go_wp2_with fail
  refine (c_laws_toTiming B D _).mono ?_; rintro e w11 ⟨rfl, hb11⟩
  have hs11 := hb11.size
  have Q11 := Q10.tr hb11
  go_wp2_with fail
  refine (HI.out _ _ (ho10.rd.below hb11)).mono ?_; rintro e w12 ⟨ag, cg, rfl, hog, hb12⟩
  have hogr : EvR w11.heap.size w12.heap.size w12 (.slice ag L.length cg) L := hog.r
  have hs12 := hb12.size
  have Q12 := Q11.tr hb12
  have oi12 := (ho10.ir.below hb11).below hb12
  go_wp2_with fail
  refine (c_laws_eqEventS L _ _ _ (hog.rd HLm.out) (HS9.out.below Q12)).mono ?_; rintro e w14 ⟨rfl, hb14⟩
  have hs14 := hb14.size
  have Q14 := Q12.tr hb14
  go_wp2_with fail
  refine (c_laws_toInt64S p _ _ (HRW.out.below (B9.tr Q14)) hn).mono ?_; rintro e w15 ⟨rfl, ho15, hb15⟩
  have hs15 := hb15.size
  have Q15 := Q14.tr hb15
  go_wp2_with fail
  refine (c_laws_eqInt64S p p _ _ _ ((oi12.below hb14).below hb15).rd ho15.rd).mono ?_; rintro e w16 ⟨rfl, hb16⟩
  have hs16 := hb16.size
  have Q16 := Q15.tr hb16
  rw [show decide (p = p) = true by simp]
  go_wp2_with fail
  refine (m_Int64S W9a.heap.size w10.heap.size p 1 _ _ (((oi12.below hb14).below hb15).below hb16) (by omega) (by omega)).mono ?_; rintro e w17 ⟨rfl, hm17, hu17⟩
  have hs17 := hu17.size
  have Q17 : Below W9a.heap.size W9a w17 := Q16.trans (hu17.below (by omega) (by omega))
  have og17 := (((hogr.below hb14).below hb15).below hb16).upd hu17 (by omega)
  have n0 := keepc Q17 n0a
  have n1 := keepc Q17 n1a
  have tk : ¬ ((1 + (p.length : Int)) < 0) := by omega
  go_wp2_with fail
  refine (c_laws_eqEventS L _ _ _ (og17.at.rd HLm.out) (HS9.out.below Q17)).mono ?_; rintro e w18 ⟨rfl, hb18⟩
  have hs18 := hb18.size
  have Q18 := Q17.tr hb18
  go_wp2_with fail
  refine (HM1.out w11.heap.size w12.heap.size _ _ (og17.below hb18)).mono ?_; rintro e w19 ⟨rfl, hm19, hu19⟩
  have hs19 := hu19.size
  have Q19 : Below W9a.heap.size W9a w19 := Q18.trans (hu19.below (by omega) (by omega))
  have hm19r := hm19.at.rd hML.out
  go_wp2_with fail
  refine (HH1.out _ _ hm19r).mono ?_; rintro e w20 ⟨rfl, hb20⟩
  have hs20 := hb20.size
  have Q20 := Q19.tr hb20
  have HM20 := Lib.hid (hm19r.below hb20)
  have th : ¬ ((1 + (S : Int)) < 0) := by omega
  have te : ((1 + (S : Int)) != (1 + (S : Int))) = false := by simp
  have hR20 : RdI w20 (.slice a1 p.length cap1) p := HRW.out.below (B9.tr Q20)
  have n0 := keepc Q20 n0a
  have n1 := keepc Q20 n1a
  clear hm19r hm19 og17 oi12 hm17 ho10 ho15 hog hogr
  go_wp2_with fail
  have hRab : RdI w20.drew (.slice a1 p.length cap1) p := hR20
  have ne1b : ¬ w20.heap.size = w.heap.size := by omega
  have ne2b : ¬ w.heap.size = w20.heap.size := by omega
  go_region_held3 (fun w' => w'.cell? ⟨w.heap.size, 0, none⟩ = some (.int .i64 B) ∧ w'.cell? ⟨w.heap.size, 1, none⟩ = some (.int .i64 D))
    (go_keep)
    (first
      | ((go_at_call 19; refine (c_laws_toInt64S p _ _ (by exact hRab) hn).mono ?_; rintro e w2b ⟨rfl, ho2b, hb2b⟩; have hb2b' := below_drew hb2b; have j0 := keepc hb2b' n0; have j1 := keepc hb2b' n1; have hr2b := ho2b.rd; have hz2b : w20.heap.size ≤ w2b.heap.size := hb2b'.size; have ne3b : ¬ w2b.heap.size = w.heap.size := (by omega); have ne4b : ¬ w.heap.size = w2b.heap.size := (by omega)))
      | ((go_at_call 20; refine (c_laws_toTiming B D _).mono ?_; rintro e w3b ⟨rfl, hb3b⟩; have l0 := keepc hb3b j0; have l1 := keepc hb3b j1; have hr3b := hr2b.below hb3b; have hz3b : w2b.heap.size ≤ w3b.heap.size := hb3b.size; have ne5b : ¬ w3b.heap.size = w.heap.size := (by omega); have ne6b : ¬ w.heap.size = w3b.heap.size := (by omega)))
      | ((go_at_call 21; refine (HI.out _ _ hr3b).mono ?_; rintro e W9b ⟨asb, csb, rfl, ho4b, hb4b⟩; have m0 := keepc hb4b l0; have m1 := keepc hb4b l1; have hz4b : w3b.heap.size ≤ W9b.heap.size := hb4b.size)))
  have B9b : Below w20.heap.size w20 W9b := (hb2b'.tr hb3b).tr hb4b
  have hrsb : RdRow 4 rowE W9b (.slice asb L.length csb) L := ho4b.rd HLm.out
  have Q21 := Q20.tr B9b
  have h21 := HM20.out.below B9b
  clear ho4b ho2b hr2b hr3b j0 j1 l0 l1 m0 m1
  go_wp2_with fail
  refine (c_laws_eqEventS L _ _ _ hrsb (HS9.out.below Q21)).mono ?_; rintro e w22 ⟨rfl, hb22⟩
  have h22 := h21.below hb22
  go_wp2_with fail
  refine (HH1.out _ _ h22).mono ?_; rintro e w23 ⟨rfl, hb23⟩
  go_wp2
  go_ret
  exact ⟨rfl, ((B9.tr Q21).tr hb22).tr hb23⟩
theorem walk_big (p : List Int) (B D f t : Int) (a1 : Option Addr) (cap1 : Nat) (w : World) (hl : (p.length : Int) ≤ 9223372036854775807) (hn : ¬ p.length ≤ 1048576) :
    Calls Try.prog 4 #[.slice a1 p.length cap1, .agg #[.int .i64 B, .int .i64 D], .int .i64 f, .int .i64 t] w fun e w' => e = .returned (.bool true) ∧ Below w.heap.size w w' := by
  go_enter Try.func4, Try.ntmps4
  go_wp2
  go_ret
  exact ⟨rfl, by (repeat (first | (with_reducible assumption) | (with_reducible exact Below.refl _ _) | (with_reducible refine Below.setCell ?_ (by first | (simp; done) | (simp; omega)) _) | (with_reducible refine Below.al ?_ _) | (with_reducible refine Below.dr ?_) | (with_reducible refine Below.drN ?_ _) | (with_reducible refine Below.tr ?_ (by with_reducible assumption))))⟩
theorem walk (v0 v1 v2 v3 : Value) (w : World) (p0 : Arg_ints w v0) (p1 : Arg_Timing w v1) (p2 : Arg_int64 w v2) (p3 : Arg_int64 w v3) : Calls Try.prog 4 #[v0, v1, v2, v3] w fun e w' => e = .returned (.bool true) ∧ Below w.heap.size w w' := by
  obtain ⟨p, hp⟩ := p0
  obtain ⟨B, D, rfl⟩ := p1
  obtain ⟨f, rfl, -⟩ := p2
  obtain ⟨t, rfl, -⟩ := p3
  have hp' := hp
  obtain ⟨a1, cap1, rfl, hl1, _⟩ := hp'
  by_cases hn : p.length ≤ 1048576
  · exact walk_small p B D f t a1 cap1 w hp hn
  · exact walk_big p B D f t a1 cap1 w (by omega) hn
theorem own : ownKnob Try.prog.godebug = none := by kernel_rfl
theorem laidOut : laidOutB Try.prog = true := by kernel_rfl
set_option maxRecDepth 100000 in
theorem lifted (os : Os) (started : os.Started) (H : Type) (enc : TypeId × Value → H) :
    ReturnsInHanded {} Try.checked os 4 .any (Rows.fnExactEventsOfSpec.pre6 enc Try.prog Try.f4 Rows.fnExactEventsOfRow.domain false) (Rows.fnExactEventsOfSpec.post enc Try.prog Try.f4 false true false false) := by
  refine returnsInHanded_of_change (C := Try.checked) own started (by kernel_rfl) Try.func4
    (ChangeSpec.witness6 (enc := enc) (C := Try.checked) false ⟨#[], #[.slice none 0 0, .agg #[.int .i64 0, .int .i64 0], .int .i64 0, .int .i64 0], []⟩ 8 (by kernel_rfl) (by kernel_rfl) (by kernel_rfl) (by kernel_rfl)) ?_
  intro W base args ds gs before hval0 hW hcnd _
  have hval : ∀ (j : Nat) t v, Try.f4.params[j]? = some t → args[j]? = some v → Value.okWide Try.prog W .any base t v := hval0
  have hW' := hW
  obtain ⟨p, q, hA0, hV, rfl, hfz, hnd⟩ := hW
  have hA : DataW.TrodAll enc Try.prog W 0 (fun _ => true) true Try.f4.params.toList args.toList ds p := hA0
  rw [Try.params4] at hA hval
  obtain ⟨v0, vs0, d0, ds0, p0, q0, hargs, rfl, rfl, h0, r0⟩ := trodAll_cons hA
  obtain ⟨v1, vs1, d1, ds1, p1, q1, rfl, rfl, rfl, h1, r1⟩ := trodAll_cons r0
  obtain ⟨v2, vs2, d2, ds2, p2, q2, rfl, rfl, rfl, h2, r2⟩ := trodAll_cons r1
  obtain ⟨v3, vs3, d3, ds3, p3, q3, rfl, rfl, rfl, h3, r3⟩ := trodAll_cons r2
  obtain ⟨rfl, rfl, rfl⟩ := trodAll_nil r3
  obtain rfl : args = #[v0, v1, v2, v3] := by cases args; simp_all
  obtain ⟨rfl, rfl⟩ := trodVars_none hV
  have k0 := h0
  have lt0 : ∀ x ∈ p0, x.block < W.heap.size := by obtain ⟨m, hm⟩ := k0; exact DataW.trod_lt m _ _ _ hm
  have a0 := open_intsArg (hval 0 28 v0 rfl rfl) h0
  have k1 := h1
  have lt1 : ∀ x ∈ p1, x.block < W.heap.size := by obtain ⟨m, hm⟩ := k1; exact DataW.trod_lt m _ _ _ hm
  have a1 := open_Timing (hval 1 44 v1 rfl rfl) h1
  have k2 := h2
  have lt2 : ∀ x ∈ p2, x.block < W.heap.size := by obtain ⟨m, hm⟩ := k2; exact DataW.trod_lt m _ _ _ hm
  have a2 := open_int64 (hval 2 2 v2 rfl rfl) h2
  have k3 := h3
  have lt3 : ∀ x ∈ p3, x.block < W.heap.size := by obtain ⟨m, hm⟩ := k3; exact DataW.trod_lt m _ _ _ hm
  have a3 := open_int64 (hval 3 2 v3 rfl rfl) h3
  clear hA0 hval0
  refine (walk v0 v1 v2 v3 W a0 a1 a2 a3).mono fun e W' ⟨he, bel⟩ => ?_
  subst he
  exact ⟨_, rfl, _, _, _, [], _, [], hW', trodAll_mk1 (shut_bool Try.underlying4 _), (trodAll_cons_mk (Below.trod laidOut (by kernel_rfl) (of_decide_eq_true (by kernel_rfl)) k0 bel lt0) (trodAll_cons_mk (Below.trod laidOut (by kernel_rfl) (of_decide_eq_true (by kernel_rfl)) k1 bel lt1) (trodAll_cons_mk (Below.trod laidOut (by kernel_rfl) (of_decide_eq_true (by kernel_rfl)) k2 bel lt2) (trodAll_cons_mk (Below.trod laidOut (by kernel_rfl) (of_decide_eq_true (by kernel_rfl)) k3 bel lt3) trodAll_mk0)))), rfl, bel.frame _, fun h => by cases h⟩
theorem over : Rows.fnExactEventsOfRow.holds Try.pinned (OpenSpec.ofChange Rows.fnExactEventsOfSpec) :=
  OpenClaim.holds_of_wide 4 Try.f4 rfl rfl rfl rfl rfl rfl rfl ⟨rfl, rfl, rfl, rfl, rfl⟩ rfl rfl rfl rfl rfl (by kernel_rfl) Try.func4 (by kernel_rfl)
    (of_decide_eq_true (by kernel_rfl)) (by unfold Func.isWrapper; first | (rw [if_pos (by decide +kernel)]; kernel_rfl) | (rw [if_neg (by decide +kernel)]; exact ⟨rfl, rfl⟩))
    (fun os started H enc _ => lifted os started H enc)
theorem proved : Rows.FnExactEventsOfSaid := over
end Go.Proofs.Ytgcmnpimkfmccaa.fnExactEventsOf
