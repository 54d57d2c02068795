/- FnExactShortestOrder: ShortestOrder returns what the reference's returns. Proved for every argument that the statement allows. -/
import Derived.Test.YtecdmnncfloagaaSoI
import Derived.Test.YtecdmnncfloagaaArgsP
namespace Go.Proofs.Ytecdmnncfloagaa
open Go.ChangeShapes Go.WideShapes Go.ChangeAt Go.RowKit
set_option linter.unusedVariables false
namespace fnExactShortestOrder
theorem soX_len (h : Int) (X : List Part2) : (soX h X).length ≤ 1000 := by
  cases hv : validR h X
  · rw [(so_no hv).1]; simp
  · have R := rout_ok hv
    obtain ⟨q, hq, -, hl, -⟩ := ord_some R
    rw [(so_yes hv).1, hq]
    show q.1.length ≤ 1000
    have := R.hl
    omega
theorem dec_soX (h : Int) (X : List Part2) : decide (soX h X = soX h X) = true := by simp
set_option maxHeartbeats 8000000 in
set_option maxRecDepth 100000 in
theorem walk_small (X : List Part2) (h : Int) (a1 : Option Addr) (cap1 : Nat) (w : World) (hr : RdP w (.slice a1 X.length cap1) X) (hx : X.length + sumP X ≤ 1048576) :
    Calls Try.prog 12 #[.agg #[.int .i64 h, .slice a1 X.length cap1]] w fun e w' => e = .returned (.bool true) ∧ Below w.heap.size w w' := by
  obtain ⟨W0, hW0, k0, k1, B0⟩ := routOf w 77 h (.slice a1 X.length cap1)
  have sW0 : w.heap.size < W0.heap.size := World.block_lt_of_cell? W0 _ k0
  have HSZ : Hid (szLeftG 1048576 ((X.length + sumP X : Nat) : Int) = 1048576 - ((X.length + sumP X : Nat) : Int)) := if_neg (by omega)
  have HR := Lib.hid hr
  have HXS := Lib.hid (soX_len h X)
  have DX := dec_soX h X
  have HB := Lib.hid hx
  obtain ⟨T, HT⟩ : ∃ T : Nat, Hid (X.length + sumP X = T) := ⟨_, rfl⟩
  rw [HT.out] at HSZ
  have hT : (T : Int) ≤ 1048576 := by have := HT.out; omega
  have hl1 : X.length ≤ 9223372036854775807 := by omega
  clear hr hx
  go_enter Try.func12, Try.ntmps12
  go_wp2_with fail
  rw [← hW0]
  clear hW0
  refine (c_laws_szRoutine X 1048576 h _ _ (HR.out.below B0) (by omega)).mono ?_; rintro e w1 ⟨rfl, hb1⟩
  rw [HT.out, HSZ.out]
  have hn0 : ¬ (1048576 : Int) - (T : Int) < 0 := by omega
  have k0 := keepc hb1 k0
  have k1 := keepc hb1 k1
  have B1 := B0.tr hb1
  go_wp2_with fail
  refine (c_laws_toRoutine X h _ _ (HR.out.below B1) HB.out).mono ?_; rintro e w2 ⟨g2, U2, rfl, ho2, hb2⟩
  have k0 := keepc hb2 k0
  have k1 := keepc hb2 k1
  have B2 := B1.tr hb2
  go_wp2_with fail
  refine (c_spec_ShortestOrder X h _ _ (ho2.rd hl1)).mono ?_; rintro e w3 ⟨u3, rfl, hw3, hb3⟩
  have hw3 := hw3.ir
  have k0 := keepc hb3 k0
  have k1 := keepc hb3 k1
  have B3 := B2.tr hb3
  have hR3 := Lib.hid hw3.rd
  obtain ⟨a3, c3, rfl, -, -⟩ := hw3.rd
  go_wp2_with fail
  refine (c_laws_toRoutine X h _ _ (HR.out.below B3) HB.out).mono ?_; rintro e w4 ⟨g4, U4, rfl, ho4, hb4⟩
  have k0 := keepc hb4 k0
  have k1 := keepc hb4 k1
  have B4 := B3.tr hb4
  have m0 : (w4.alloc (Obj.cells #[.int .i64 h, .slice (some ⟨g4, 0, none⟩) X.length X.length] 82)).cell? ⟨w4.heap.size, 0, none⟩ = some (.int .i64 h) := World.cell?_alloc_at _ _ _ _ rfl
  have m1 : (w4.alloc (Obj.cells #[.int .i64 h, .slice (some ⟨g4, 0, none⟩) X.length X.length] 82)).cell? ⟨w4.heap.size, 1, none⟩ = some (.slice (some ⟨g4, 0, none⟩) X.length X.length) := World.cell?_alloc_at _ _ _ _ rfl
  have BA : Below w4.heap.size w4 (w4.alloc (Obj.cells #[.int .i64 h, .slice (some ⟨g4, 0, none⟩) X.length X.length] 82)) := (Below.refl _ _).al _
  go_wp2_with fail
  generalize (w4.alloc (Obj.cells #[.int .i64 h, .slice (some ⟨g4, 0, none⟩) X.length X.length] 82)) = W4 at *
  obtain ⟨n4, Hn4⟩ : ∃ n4, Hid (w4.heap.size = n4) := ⟨_, rfl⟩
  rw [show w4.heap.size = n4 from Hn4.out]
  rw [Hn4.out] at m0 m1
  have k0 := keepc BA k0
  have k1 := keepc BA k1
  refine (c_impl_ShortestOrder X h _ _ ((ho4.below BA).rd hl1)).mono ?_; rintro e w5 ⟨u5, rfl, hw5, hb5⟩
  have hw5 := hw5.ir
  have k0 := keepc hb5 k0
  have k1 := keepc hb5 k1
  have m0 := keepc hb5 m0
  have m1 := keepc hb5 m1
  have B5 := (B4.tr BA).tr hb5
  have hR5 := Lib.hid hw5.rd
  obtain ⟨a5, c5, rfl, -, -⟩ := hw5.rd
  have tc : (soC h X != soC h X) = false := by simp
  have tl : (soL h X != soL h X) = false := by simp
  go_wp2_with fail
  refine (c_laws_eqInt64S (soX h X) (soX h X) _ _ _ hR5.out (hR3.out.below ((hb4.tr BA).tr hb5))).mono ?_; rintro e w6 ⟨rfl, hb6⟩; rw [dec_soX h X]
  have k0 := keepc hb6 k0
  have k1 := keepc hb6 k1
  have m0 := keepc hb6 m0
  have m1 := keepc hb6 m1
  have B6 := B5.tr hb6
  have B46 := (BA.tr hb5).tr hb6
  have ho6 := ho4.below B46
  go_wp2_with fail
  go_region_held3 (fun w' => w'.cell? ⟨w.heap.size, 0, none⟩ = some (.int .i64 h) ∧ w'.cell? ⟨w.heap.size, 1, none⟩ = some (.slice a1 X.length cap1) ∧ w'.cell? ⟨n4, 0, none⟩ = some (.int .i64 h) ∧ w'.cell? ⟨n4, 1, none⟩ = some (.slice (some ⟨g4, 0, none⟩) X.length X.length))
    (go_keep)
    (first
      | ((go_at_call 61; refine (c_laws_toRoutine X h _ _ ((HR.out.below B6).below ((Below.refl _ _).dr)) HB.out).mono ?_; rintro e w7 ⟨g7, U7, rfl, ho7, hb7⟩; have hb7' := below_drew hb7; have q0 := keepc hb7' k0; have q1 := keepc hb7' k1; have q2 := keepc hb7' m0; have q3 := keepc hb7' m1))
      | ((go_at_call 63; refine (c_laws_eqRoutine X h _ _ _ ((ho6.rd hl1).below hb7') (ho7.rd hl1)).mono ?_; rintro e w8 ⟨rfl, hb8⟩; have hb8' := hb7'.tr hb8; have q0 := keepc hb8' k0; have q1 := keepc hb8' k1; have q2 := keepc hb8' m0; have q3 := keepc hb8' m1)))
  have ho8 := ho6.below hb8'
  have B8 := B6.tr hb8'
  have hg4 : 0 < X.length → g4 < w4.heap.size := fun e0 => by
    obtain ⟨⟨q, hq⟩, _⟩ := ho4.cells 0 (by omega)
    exact World.block_lt_of_cell? w4 _ hq
  have hU4 : ∀ i, i < X.length → ∀ b, (U4 i).ownBlock = some b → b < w4.heap.size := fun i hi b hb => (World.ownsRow.lt (ho4.get i hi hi).2.2 b hb).2
  have B58 := hb6.tr hb8'
  have hw58 := hw5.below B58
  have s01 := hb1.size
  have s02 := hb2.size
  have s3 := hb4.size
  have s4 := BA.size
  have s5 := hb5.size
  have s8 := B58.size
  have s12 : w.heap.size ≤ w2.heap.size := B2.size
  have s23 := hb3.size
  have HXS1 := HXS.out
  have hTT := HT.out
  obtain ⟨SM, HSM⟩ : ∃ SM, Hid ((1 : Int) + (sumP X : Int) + X.length = SM) := ⟨_, rfl⟩
  obtain ⟨SL, HSL⟩ : ∃ SL, Hid ((1 : Int) + ((soX h X).length : Int) = SL) := ⟨_, rfl⟩
  have hSM : ¬ SM < 0 := by have := HSM.out; omega
  have hSL : ¬ SL < 0 := by have := HSL.out; omega
  have tSL : (SL != SL) = false := by simp
  have hw38 := hw3.below (((hb4.tr BA).tr hb5).tr B58)
  have k0 := q0
  have k1 := q1
  have m0 := q2
  have m1 := q3
  clear hb7 hb7' hb8 ho7 hb6 hb5 hb4 hb3 hb2 hb1 hR5 hR3 hw5 hw3 ho6 B46 ho2
  go_wp2_with fail
  refine (c_laws_markRoutine w3.heap.size w4.heap.size g4 X U4 1 h _ ho8 hg4 hU4 (by omega) (by omega) (by omega) hl1).mono ?_; rintro e w9 ⟨rfl, hu9⟩
  rw [HSM.out]
  have hws : w.heap.size < w8.heap.size := World.block_lt_of_cell? w8 _ k0
  have hwl : w.heap.size < w3.heap.size := by omega
  have k0 : w9.cell? ⟨w.heap.size, 0, none⟩ = some (.int .i64 h) := by rw [hu9.cell _ _ (Or.inl hwl) hws]; exact k0
  have k1 : w9.cell? ⟨w.heap.size, 1, none⟩ = some (.slice a1 X.length cap1) := by rw [hu9.cell _ _ (Or.inl hwl) hws]; exact k1
  have hw59 := hw58.upd hu9 (Or.inr s4)
  have hw39 := hw38.upd hu9 (Or.inl (Nat.le_refl _))
  have B9 : Below w.heap.size w w9 := B8.trans (hu9.below (by omega) (by omega))
  go_wp2_with fail
  refine (c_laws_eqInt64S (soX h X) (soX h X) _ _ _ hw59.rd hw39.rd).mono ?_; rintro e w10 ⟨rfl, hb10⟩; rw [dec_soX h X]
  have k0 := keepc hb10 k0
  have k1 := keepc hb10 k1
  have hw510 := hw59.below hb10
  have hw310 := hw39.below hb10
  have B10 := B9.tr hb10
  go_wp2_with fail
  refine (c_laws_markInt64S W4.heap.size (soX h X) 1 _ _ hw510.1 (by omega) (by omega)).mono ?_; rintro e w11 ⟨rfl, ho11, hg11⟩
  have hu11 : Upd W4.heap.size w5.heap.size w10 w11 := hw510.upd_of hg11
  rw [HSL.out]
  have hws : w.heap.size < w10.heap.size := World.block_lt_of_cell? w10 _ k0
  have k0 : w11.cell? ⟨w.heap.size, 0, none⟩ = some (.int .i64 h) := by rw [hu11.cell _ _ (Or.inl (by omega)) hws]; exact k0
  have k1 : w11.cell? ⟨w.heap.size, 1, none⟩ = some (.slice a1 X.length cap1) := by rw [hu11.cell _ _ (Or.inl (by omega)) hws]; exact k1
  have hw311 := hw310.upd hu11 (Or.inl (by omega))
  have B11 : Below w.heap.size w w11 := B10.trans (hu11.below (by omega) (by have := B10.size; omega))
  go_wp2_with fail
  refine (c_laws_heldInt64S (soX h X).length 1 _ _ ho11.rd (by omega) (by omega)).mono ?_; rintro e w12 ⟨rfl, rfl⟩
  rw [HSL.out]
  go_wp2_with fail
  refine (c_laws_toRoutine X h _ _ (HR.out.below B11) HB.out).mono ?_; rintro e w13 ⟨g13, U13, rfl, ho13, hb13⟩
  have B13 := B11.tr hb13
  go_wp2_with fail
  refine (c_impl_ShortestOrder X h _ _ (ho13.rd hl1)).mono ?_; rintro e w14 ⟨u14, rfl, hw14, hb14⟩
  have B1314 := hb13.tr hb14
  have hr14 := hw14.rd
  obtain ⟨a14, c14, rfl, -, -⟩ := hw14.rd
  go_wp2_with fail
  refine (c_laws_eqInt64S (soX h X) (soX h X) _ _ _ hr14 (hw311.below B1314).rd).mono ?_; rintro e w15 ⟨rfl, hb15⟩; rw [dec_soX h X]
  go_wp2_with fail
  refine (c_laws_heldInt64S (soX h X).length 1 _ _ ((ho11.below B1314).below hb15).rd (by omega) (by omega)).mono ?_; rintro e w16 ⟨rfl, rfl⟩
  rw [HSL.out]
  have BZ := (B11.tr B1314).tr hb15
  go_wp2
  go_ret
  exact ⟨rfl, BZ⟩
theorem walk_big (X : List Part2) (h : Int) (a1 : Option Addr) (cap1 : Nat) (w : World) (hr : RdP w (.slice a1 X.length cap1) X) (hx : ¬ X.length + sumP X ≤ 1048576) :
    Calls Try.prog 12 #[.agg #[.int .i64 h, .slice a1 X.length cap1]] w fun e w' => e = .returned (.bool true) ∧ Below w.heap.size w w' := by
  obtain ⟨W0, hW0, k0, k1, B0⟩ := routOf w 77 h (.slice a1 X.length cap1)
  have HSZ : Hid (szLeftG 1048576 ((X.length + sumP X : Nat) : Int) = -1) := if_pos (by omega)
  go_enter Try.func12, Try.ntmps12
  go_wp2_with fail
  rw [← hW0]
  clear hW0
  refine (c_laws_szRoutine X 1048576 h _ _ (hr.below B0) (by omega)).mono ?_; rintro e w1 ⟨rfl, hb1⟩
  rw [HSZ.out]
  have B1 := B0.tr hb1
  go_wp2
  go_ret
  exact ⟨rfl, B1⟩
theorem walk (v0 : Value) (w : World) (p0 : Arg_Routine w v0) : Calls Try.prog 12 #[v0] w fun e w' => e = .returned (.bool true) ∧ Below w.heap.size w w' := by
  obtain ⟨u1, X, h, rfl, hr⟩ := p0
  have hr' := hr
  obtain ⟨a1, cap1, rfl, -, -⟩ := hr'
  by_cases hx : X.length + sumP X ≤ 1048576
  · exact walk_small X h a1 cap1 w hr hx
  · exact walk_big X h a1 cap1 w hr hx
theorem own : ownKnob Try.prog.godebug = none := by kernel_rfl
theorem laidOut : laidOutB Try.prog = true := by kernel_rfl
set_option maxRecDepth 100000 in
theorem lifted (os : Os) (started : os.Started) (H : Type) (enc : TypeId × Value → H) :
    ReturnsInHanded {} Try.checked os 12 .any (Rows.fnExactShortestOrderSpec.pre6 enc Try.prog Try.f12 Rows.fnExactShortestOrderRow.domain false) (Rows.fnExactShortestOrderSpec.post enc Try.prog Try.f12 false true false false) := by
  refine returnsInHanded_of_change (C := Try.checked) own started (by kernel_rfl) Try.func12
    (ChangeSpec.witness6 (enc := enc) (C := Try.checked) false ⟨#[], #[.agg #[.int .i64 0, .slice none 0 0]], []⟩ 8 (by kernel_rfl) (by kernel_rfl) (by kernel_rfl) (by kernel_rfl)) ?_
  intro W base args ds gs before hval0 hW hcnd _
  have hval : ∀ (j : Nat) t v, Try.f12.params[j]? = some t → args[j]? = some v → Value.okWide Try.prog W .any base t v := hval0
  have hW' := hW
  obtain ⟨p, q, hA0, hV, rfl, hfz, hnd⟩ := hW
  have hA : DataW.TrodAll enc Try.prog W 0 (fun _ => true) true Try.f12.params.toList args.toList ds p := hA0
  rw [Try.params12] at hA hval
  obtain ⟨v0, vs0, d0, ds0, p0, q0, hargs, rfl, rfl, h0, r0⟩ := trodAll_cons hA
  obtain ⟨rfl, rfl, rfl⟩ := trodAll_nil r0
  obtain rfl : args = #[v0] := by cases args; simp_all
  obtain ⟨rfl, rfl⟩ := trodVars_none hV
  have k0 := h0
  have lt0 : ∀ x ∈ p0, x.block < W.heap.size := by obtain ⟨m, hm⟩ := k0; exact DataW.trod_lt m _ _ _ hm
  have a0 := open_Routine (hval 0 77 v0 rfl rfl) h0
  clear hA0 hval0
  refine (walk v0 W a0).mono fun e W' ⟨he, bel⟩ => ?_
  subst he
  exact ⟨_, rfl, _, _, _, [], _, [], hW', trodAll_mk1 (shut_bool Try.underlying4 _), (trodAll_cons_mk (Below.trod laidOut (by kernel_rfl) (of_decide_eq_true (by kernel_rfl)) k0 bel lt0) trodAll_mk0), rfl, bel.frame _, fun h => by cases h⟩
theorem over : Rows.fnExactShortestOrderRow.holds Try.pinned (OpenSpec.ofChange Rows.fnExactShortestOrderSpec) :=
  OpenClaim.holds_of_wide 12 Try.f12 rfl rfl rfl rfl rfl rfl rfl ⟨rfl, rfl, rfl, rfl, rfl⟩ rfl rfl rfl rfl rfl (by kernel_rfl) Try.func12 (by kernel_rfl)
    (of_decide_eq_true (by kernel_rfl)) (by unfold Func.isWrapper; first | (rw [if_pos (by decide +kernel)]; kernel_rfl) | (rw [if_neg (by decide +kernel)]; exact ⟨rfl, rfl⟩))
    (fun os started H enc _ => lifted os started H enc)
theorem proved : Rows.FnExactShortestOrderSaid := over
end fnExactShortestOrder
end Go.Proofs.Ytecdmnncfloagaa
