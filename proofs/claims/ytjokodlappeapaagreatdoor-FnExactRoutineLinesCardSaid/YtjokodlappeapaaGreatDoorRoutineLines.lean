/- The law FnExactRoutineLines returns true for all routines. The row lists strconv's tables as the program's text lays them (the card ties them). -/
import Derived.Test.YtjokodlappeapaaGreatDoorRouL
import Derived.Test.YtjokodlappeapaaGreatDoorLawT
import Derived.Test.YtjokodlappeapaaGreatDoorArgsP
namespace Go.Proofs.YtjokodlappeapaaGreatDoor
open Go.ChangeShapes Go.WideShapes Go.ChangeAt Go.RowKit
set_option linter.unusedVariables false
namespace fnExactRoutineLines
set_option maxHeartbeats 8000000 in
set_option maxRecDepth 100000 in
theorem walk_small (X : List Part2) (h : Int) (a1 : Option Addr) (cap1 : Nat) (w : World) (hTab : Tab w) (hr : RdP w (.slice a1 X.length cap1) X) (hx : X.length + sumP X ≤ 1048576) :
    Calls Tryz.prog 3 #[.agg #[.int .i64 h, .slice a1 X.length cap1]] w fun e w' => e = .returned (.bool true) ∧ Below w.heap.size w w' := by
  obtain ⟨W0, hW0, k0, k1, B0⟩ := routOf w 24 h (.slice a1 X.length cap1)
  have sW0 : w.heap.size < W0.heap.size := World.block_lt_of_cell? W0 _ k0
  have HSZ : Hid (szLeftG 1048576 ((X.length + sumP X : Nat) : Int) = 1048576 - ((X.length + sumP X : Nat) : Int)) := if_neg (by omega)
  have HR := Lib.hid hr
  have HXS := Lib.hid (rlL_len h X)
  have HB := Lib.hid hx
  obtain ⟨T, HT⟩ : ∃ T : Nat, Hid (X.length + sumP X = T) := ⟨_, rfl⟩
  rw [HT.out] at HSZ
  have hT : (T : Int) ≤ 1048576 := by have := HT.out; omega
  have hl1 : X.length ≤ 9223372036854775807 := by omega
  clear hr hx
  go_enter Tryz.func3, Tryz.ntmps3
  go_wp2_with fail
  rw [← hW0]
  clear hW0
  refine (c_laws_szRoutine X 1048576 h _ _ (HR.out.below B0) (by omega)).mono ?_; rintro e w1 ⟨rfl, hb1⟩
  rw [HT.out, HSZ.out]
  have hn0 : ¬ (1048576 : Int) - (T : Int) < 0 := by omega
  have k0 := keepc hb1 k0
  have k1 := keepc hb1 k1
  have B1 := B0.tr hb1
  go_wp2_with fail
  refine (c_laws_toRoutine X h _ _ (HR.out.below B1) HB.out).mono ?_; rintro e w2 ⟨g2, U2, rfl, ho2, hb2⟩
  have k0 := keepc hb2 k0
  have k1 := keepc hb2 k1
  have B2 := B1.tr hb2
  go_wp2_with fail
  refine (c_spec_RoutineLines X h _ _ (ho2.rd hl1)).mono ?_; rintro e w3 ⟨u3, rfl, hw3, hb3⟩
  have k0 := keepc hb3 k0
  have k1 := keepc hb3 k1
  have B3 := B2.tr hb3
  have hR3 := Lib.hid (OwnRow.rd rowT_len hw3)
  obtain ⟨a3, c3, rfl, -, -⟩ := OwnRow.rd rowT_len hw3
  go_wp2_with fail
  refine (c_laws_toRoutine X h _ _ (HR.out.below B3) HB.out).mono ?_; rintro e w4 ⟨g4, U4, rfl, ho4, hb4⟩
  have k0 := keepc hb4 k0
  have k1 := keepc hb4 k1
  have B4 := B3.tr hb4
  have m0 : (w4.alloc (Obj.cells #[.int .i64 h, .slice (some ⟨g4, 0, none⟩) X.length X.length] 31)).cell? ⟨w4.heap.size, 0, none⟩ = some (.int .i64 h) := World.cell?_alloc_at _ _ _ _ rfl
  have m1 : (w4.alloc (Obj.cells #[.int .i64 h, .slice (some ⟨g4, 0, none⟩) X.length X.length] 31)).cell? ⟨w4.heap.size, 1, none⟩ = some (.slice (some ⟨g4, 0, none⟩) X.length X.length) := World.cell?_alloc_at _ _ _ _ rfl
  have BA : Below w4.heap.size w4 (w4.alloc (Obj.cells #[.int .i64 h, .slice (some ⟨g4, 0, none⟩) X.length X.length] 31)) := (Below.refl _ _).al _
  go_wp2_with fail
  generalize (w4.alloc (Obj.cells #[.int .i64 h, .slice (some ⟨g4, 0, none⟩) X.length X.length] 31)) = W4 at *
  obtain ⟨n4, Hn4⟩ : ∃ n4, Hid (w4.heap.size = n4) := ⟨_, rfl⟩
  rw [show w4.heap.size = n4 from Hn4.out]
  rw [Hn4.out] at m0 m1
  have k0 := keepc BA k0
  have k1 := keepc BA k1
  refine (c_impl_RoutineLines X h _ _ ((ho4.below BA).rd hl1) (tab_below hTab (B4.tr BA))).mono ?_; rintro e w5 ⟨u5, rfl, hw5, hb5⟩
  have k0 := keepc hb5 k0
  have k1 := keepc hb5 k1
  have m0 := keepc hb5 m0
  have m1 := keepc hb5 m1
  have B5 := (B4.tr BA).tr hb5
  have hR5 := Lib.hid (OwnRow.rd rowT_len hw5)
  obtain ⟨a5, c5, rfl, -, -⟩ := OwnRow.rd rowT_len hw5
  have tc : (rtC h X != rtC h X) = false := by simp
  go_wp2_with fail
  refine (c_laws_eqStringS (rlL h X) _ _ _ hR5.out (hR3.out.below ((hb4.tr BA).tr hb5))).mono ?_; rintro e w6 ⟨rfl, hb6⟩
  have k0 := keepc hb6 k0
  have k1 := keepc hb6 k1
  have m0 := keepc hb6 m0
  have m1 := keepc hb6 m1
  have B6 := B5.tr hb6
  have B46 := (BA.tr hb5).tr hb6
  have ho6 := ho4.below B46
  go_wp2_with fail
  go_region_held3 (fun w' => w'.cell? ⟨w.heap.size, 0, none⟩ = some (.int .i64 h) ∧ w'.cell? ⟨w.heap.size, 1, none⟩ = some (.slice a1 X.length cap1) ∧ w'.cell? ⟨n4, 0, none⟩ = some (.int .i64 h) ∧ w'.cell? ⟨n4, 1, none⟩ = some (.slice (some ⟨g4, 0, none⟩) X.length X.length))
    (go_keep)
    (first
      | ((go_at_call 8; refine (c_laws_toRoutine X h _ _ ((HR.out.below B6).below ((Below.refl _ _).dr)) HB.out).mono ?_; rintro e w7 ⟨g7, U7, rfl, ho7, hb7⟩; have hb7' := below_drew hb7; have q0 := keepc hb7' k0; have q1 := keepc hb7' k1; have q2 := keepc hb7' m0; have q3 := keepc hb7' m1))
      | ((go_at_call 11; refine (c_laws_eqRoutine X h _ _ _ ((ho6.rd hl1).below hb7') (ho7.rd hl1)).mono ?_; rintro e w8 ⟨rfl, hb8⟩; have hb8' := hb7'.tr hb8; have q0 := keepc hb8' k0; have q1 := keepc hb8' k1; have q2 := keepc hb8' m0; have q3 := keepc hb8' m1)))
  have ho8 := ho6.below hb8'
  have B8 := B6.tr hb8'
  have hg4 : 0 < X.length → g4 < w4.heap.size := fun e0 => by
    obtain ⟨⟨q, hq⟩, _⟩ := ho4.cells 0 (by omega)
    exact World.block_lt_of_cell? w4 _ hq
  have hU4 : ∀ i, i < X.length → ∀ b, (U4 i).ownBlock = some b → b < w4.heap.size := fun i hi b hb => (World.ownsRow.lt (ho4.get i hi hi).2.2 b hb).2
  have B58 := hb6.tr hb8'
  have hw58 := hw5.below B58
  have s01 := hb1.size
  have s02 := hb2.size
  have s3 := hb4.size
  have s4 := BA.size
  have s5 := hb5.size
  have s8 := B58.size
  have s12 : w.heap.size ≤ w2.heap.size := B2.size
  have s23 := hb3.size
  have HXS1 := HXS.out
  have hTT := HT.out
  obtain ⟨SM, HSM⟩ : ∃ SM, Hid ((1 : Int) + (sumP X : Int) + X.length = SM) := ⟨_, rfl⟩
  obtain ⟨SL, HSL⟩ : ∃ SL, Hid ((1 : Int) + ((rlL h X).length : Int) = SL) := ⟨_, rfl⟩
  have hSM : ¬ SM < 0 := by have := HSM.out; omega
  have hSL : ¬ SL < 0 := by have := HSL.out; omega
  have tSL : (SL != SL) = false := by simp
  have hw38 := hw3.below (((hb4.tr BA).tr hb5).tr B58)
  have k0 := q0
  have k1 := q1
  have m0 := q2
  have m1 := q3
  clear hb7 hb7' hb8 ho7 hb6 hb5 hb4 hb3 hb2 hb1 hR5 hR3 hw5 hw3 ho6 B46 ho2
  go_wp2_with fail
  refine (c_laws_markRoutine w3.heap.size w4.heap.size g4 X U4 1 h _ ho8 hg4 hU4 (by omega) (by omega) (by omega) hl1).mono ?_; rintro e w9 ⟨rfl, hu9⟩
  rw [HSM.out]
  have hws : w.heap.size < w8.heap.size := World.block_lt_of_cell? w8 _ k0
  have hwl : w.heap.size < w3.heap.size := by omega
  have k0 : w9.cell? ⟨w.heap.size, 0, none⟩ = some (.int .i64 h) := by rw [hu9.cell _ _ (Or.inl hwl) hws]; exact k0
  have k1 : w9.cell? ⟨w.heap.size, 1, none⟩ = some (.slice a1 X.length cap1) := by rw [hu9.cell _ _ (Or.inl hwl) hws]; exact k1
  have hw59 := hw58.upd hu9 (Or.inr s4)
  have hw39 := hw38.upd hu9 (Or.inl (Nat.le_refl _))
  have B9 : Below w.heap.size w w9 := B8.trans (hu9.below (by omega) (by omega))
  go_wp2_with fail
  refine (c_laws_eqStringS (rlL h X) _ _ _ (OwnRow.rd rowT_len hw59) (OwnRow.rd rowT_len hw39)).mono ?_; rintro e w10 ⟨rfl, hb10⟩
  have k0 := keepc hb10 k0
  have k1 := keepc hb10 k1
  have hw510 := hw59.below hb10
  have hw310 := hw39.below hb10
  have B10 := B9.tr hb10
  go_wp2_with fail
  have s9 := hu9.size
  have s10 := hb10.size
  refine (c_laws_markStringSI W4.heap.size w5.heap.size (rlL h X) 1 _ _ hw510 (by omega) (by omega) (by omega)).mono ?_; rintro e w11 ⟨rfl, ho11, hu11⟩
  rw [HSL.out]
  have hws : w.heap.size < w10.heap.size := World.block_lt_of_cell? w10 _ k0
  have k0 : w11.cell? ⟨w.heap.size, 0, none⟩ = some (.int .i64 h) := by rw [hu11.cell _ _ (Or.inl (by omega)) hws]; exact k0
  have k1 : w11.cell? ⟨w.heap.size, 1, none⟩ = some (.slice a1 X.length cap1) := by rw [hu11.cell _ _ (Or.inl (by omega)) hws]; exact k1
  have hw311 := hw310.upd hu11 (Or.inl (by omega))
  have B11 : Below w.heap.size w w11 := B10.trans (hu11.below (by omega) (by have := B10.size; omega))
  go_wp2_with fail
  refine (c_laws_heldStringSI (rlL h X).length 1 _ _ (OwnRow.rd rowT_len ho11) (by omega) (by omega)).mono ?_; rintro e w12 ⟨rfl, hb12⟩
  rw [HSL.out]
  have B12 := B11.tr hb12
  have k0 := keepc hb12 k0
  have k1 := keepc hb12 k1
  go_wp2_with fail
  refine (c_laws_toRoutine X h _ _ (HR.out.below B12) HB.out).mono ?_; rintro e w13 ⟨g13, U13, rfl, ho13, hb13⟩
  have B13 := B12.tr hb13
  go_wp2_with fail
  refine (c_impl_RoutineLines X h _ _ (ho13.rd hl1) (tab_below hTab B13)).mono ?_; rintro e w14 ⟨u14, rfl, hw14, hb14⟩
  have B1314 := (hb12.tr hb13).tr hb14
  have hr14 := OwnRow.rd rowT_len hw14
  obtain ⟨a14, c14, rfl, -, -⟩ := OwnRow.rd rowT_len hw14
  go_wp2_with fail
  refine (c_laws_eqStringS (rlL h X) _ _ _ hr14 (OwnRow.rd rowT_len (hw311.below B1314))).mono ?_; rintro e w15 ⟨rfl, hb15⟩
  go_wp2_with fail
  refine (c_laws_heldStringSI (rlL h X).length 1 _ _ (OwnRow.rd rowT_len ((ho11.below B1314).below hb15)) (by omega) (by omega)).mono ?_; rintro e w16 ⟨rfl, hb16⟩
  rw [HSL.out]
  have BZ := ((B11.tr B1314).tr hb15).tr hb16
  go_wp2
  go_ret
  exact ⟨rfl, BZ⟩
theorem walk_big (X : List Part2) (h : Int) (a1 : Option Addr) (cap1 : Nat) (w : World) (hr : RdP w (.slice a1 X.length cap1) X) (hx : ¬ X.length + sumP X ≤ 1048576) :
    Calls Tryz.prog 3 #[.agg #[.int .i64 h, .slice a1 X.length cap1]] w fun e w' => e = .returned (.bool true) ∧ Below w.heap.size w w' := by
  obtain ⟨W0, hW0, k0, k1, B0⟩ := routOf w 24 h (.slice a1 X.length cap1)
  have HSZ : Hid (szLeftG 1048576 ((X.length + sumP X : Nat) : Int) = -1) := if_pos (by omega)
  go_enter Tryz.func3, Tryz.ntmps3
  go_wp2_with fail
  rw [← hW0]
  clear hW0
  refine (c_laws_szRoutine X 1048576 h _ _ (hr.below B0) (by omega)).mono ?_; rintro e w1 ⟨rfl, hb1⟩
  rw [HSZ.out]
  have B1 := B0.tr hb1
  go_wp2
  go_ret
  exact ⟨rfl, B1⟩
theorem walk (v0 : Value) (w : World) (hT : Tab w) (p0 : Arg_Routine w v0) : Calls Tryz.prog 3 #[v0] w fun e w' => e = .returned (.bool true) ∧ Below w.heap.size w w' := by
  obtain ⟨u1, X, h, rfl, hr⟩ := p0
  have hr' := hr
  obtain ⟨a1, cap1, rfl, -, -⟩ := hr'
  by_cases hx : X.length + sumP X ≤ 1048576
  · exact walk_small X h a1 cap1 w hT hr hx
  · exact walk_big X h a1 cap1 w hr hx
theorem own : ownKnob Tryz.prog.godebug = none := by kernel_rfl
theorem laidOut : laidOutB Tryz.prog = true := by kernel_rfl
theorem door_met (os : Os) (args : Array Value) : laidMetH Tryz.prog Rows.fnExactRoutineLinesRow.laid ((World.doorLaid Tryz.prog 24 os).forCall (fun _ _ => 0) ⟨#[], args, []⟩).memory :=
  laidMetH_of_parts3 (fuel := 8) (laidMet_of_run' 8 (by kernel_rfl) (by kernel_rfl)) (by kernel_rfl) (by kernel_rfl)
set_option maxRecDepth 100000 in
theorem lifted (os : Os) (started : os.Started) (H : Type) (enc : TypeId × Value → H) :
    ReturnsInHanded {} Tryz.checked os 3 .any (fun w args => (Rows.fnExactRoutineLinesSpec.pre enc Tryz.prog Tryz.f3 [] false w args ∧ laidMetH Tryz.prog Rows.fnExactRoutineLinesRow.laid w) ∧ sizedMet enc Tryz.prog Tryz.f3 (OpenSpec.ofChange Rows.fnExactRoutineLinesSpec) false w args)
      (Rows.fnExactRoutineLinesSpec.post enc Tryz.prog Tryz.f3 false true false false) := by
  refine returnsInHanded_of_change_and (C := Tryz.checked) (X := fun w _ => laidMetH Tryz.prog Rows.fnExactRoutineLinesRow.laid w) (fun _ _ _ hh h => h.of_heap hh) own started (by kernel_rfl) Tryz.func3
    (ChangeSpec.witness_shaped (enc := enc) (C := Tryz.checked) (os := os) (X := fun w _ => laidMetH Tryz.prog Rows.fnExactRoutineLinesRow.laid w) false (World.doorLaid Tryz.prog 24 os) #[.agg #[.int .i64 0, .slice none 0 0]] 8 rfl (World.shaped_of_RefB (by kernel_rfl) (by kernel_rfl)) (by kernel_rfl) (by kernel_rfl) (by kernel_rfl) (door_met os _)) ?_
  intro W base args ds gs before hval0 hW _ _ hL _
  have hval : ∀ (j : Nat) t v, Tryz.f3.params[j]? = some t → args[j]? = some v → Value.okWide Tryz.prog W .any base t v := hval0
  have hW' := hW
  obtain ⟨p, q, hA0, hV, rfl, hfz, hnd⟩ := hW
  have hA : DataW.TrodAll enc Tryz.prog W 0 (fun _ => true) true Tryz.f3.params.toList args.toList ds p := hA0
  rw [Tryz.params3] at hA hval
  obtain ⟨v0, vs0, d0, ds0, p0, q0, hargs, rfl, rfl, h0, r0⟩ := trodAll_cons hA
  obtain ⟨rfl, rfl, rfl⟩ := trodAll_nil r0
  obtain rfl : args = #[v0] := by cases args; simp_all
  obtain ⟨rfl, rfl⟩ := trodVars_none hV
  have k0 := h0
  have lt0 : ∀ x ∈ p0, x.block < W.heap.size := by obtain ⟨m, hm⟩ := k0; exact DataW.trod_lt m _ _ _ hm
  have a0 := open_Routine (hval 0 24 v0 rfl rfl) h0
  clear hA0 hval0
  refine (walk v0 W (tab_of hL) a0).mono fun e W' ⟨he, bel⟩ => ?_
  subst he
  exact ⟨_, rfl, _, _, _, [], _, [], hW', trodAll_mk1 (shut_bool Tryz.underlying4 _), (trodAll_cons_mk (Below.trod laidOut (by kernel_rfl) (of_decide_eq_true (by kernel_rfl)) k0 bel lt0) trodAll_mk0), rfl, bel.frame _, fun h => by cases h⟩
theorem over : Rows.fnExactRoutineLinesRow.holds Tryz.pinned (OpenSpec.ofChange Rows.fnExactRoutineLinesSpec) :=
  OpenClaim.holds_of_wide 3 Tryz.f3 rfl rfl rfl rfl rfl rfl rfl ⟨rfl, rfl, rfl, rfl, rfl⟩ rfl rfl rfl rfl rfl (by kernel_rfl) Tryz.func3 (by kernel_rfl)
    (of_decide_eq_true (by kernel_rfl)) (by unfold Func.isWrapper; first | (rw [if_pos (by decide +kernel)]; kernel_rfl) | (rw [if_neg (by decide +kernel)]; exact ⟨rfl, rfl⟩))
    (fun os started H enc _ => lifted os started H enc)
theorem proved : Rows.FnExactRoutineLinesCardSaid :=
  Claim7.holds_tied_plain_at .later [] Rows.fnExactRoutineLinesCard.laidKinds true Rows.fnExactRoutineLinesCard.stood.harness false
    over (fun _ h => by cases h) (by kernel_rfl) (fun _ h => by cases h) fnExactRoutineLines_row_tie rfl ⟨rfl, rfl⟩ (by kernel_rfl) rfl
    (fun f fn hf hfn => by
      obtain rfl : f = 3 := Option.some.inj ((show Tryz.prog.funcNamed Rows.fnExactRoutineLinesRow.func = some 3 by kernel_rfl).symm.trans hf) |>.symm
      obtain rfl : fn = Tryz.f3 := (Option.some.inj (Tryz.func3.symm.trans hfn)).symm
      exact ⟨by kernel_rfl, fun j t ht => by
        rw [Tryz.params3] at ht
        have hm : t ∈ [24] := by simpa using Array.mem_of_getElem? ht
        have hall : ([24].all fun u => !Tryz.prog.wantsStandIn u) = true := by kernel_rfl
        exact (show Tryz.prog.wantsStandIn t = false by simpa using List.all_eq_true.1 hall t hm)⟩)
    (by kernel_rfl)
end fnExactRoutineLines
end Go.Proofs.YtjokodlappeapaaGreatDoor
