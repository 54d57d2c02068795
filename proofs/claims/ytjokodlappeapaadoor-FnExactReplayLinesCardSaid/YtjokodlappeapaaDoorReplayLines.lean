/- The law FnExactReplayLines returns true for all slices of strings. The row lists strconv's tables as the program's text lays them (the card ties them). -/
import Derived.Test.YtjokodlappeapaaDoorRecI
import Derived.Test.YtjokodlappeapaaDoorLawZ
import Derived.Test.YtjokodlappeapaaDoorDoorF
namespace Go.Proofs.YtjokodlappeapaaDoor
open Go.ChangeShapes Go.WideShapes Go.ChangeAt Go.RowKit
namespace fnExactReplayLines
set_option linter.unusedVariables false
theorem zz {X : List ByteArray} (h : X.length + sumZ X ≤ 1048576) : ∀ s ∈ X, s.size ≤ 2000000 := fun s hs => by
  have := sumZ_mem hs
  omega
theorem c_laws_eqState (h m : Int) (w : World) :
    Calls Tryd.prog 16 #[.agg #[.int .i64 h, .int .i64 m], .agg #[.int .i64 h, .int .i64 m]] w fun e w' => e = .returned (.bool true) ∧ Below w.heap.size w w' := by
  have t1 : (h != h) = false := by simp
  have t2 : (m != m) = false := by simp
  go_enter Tryd.func16, Tryd.ntmps16
  go_wp2
  go_ret
  exact ⟨rfl, by (repeat (first | (with_reducible assumption) | (with_reducible exact Below.refl _ _) | (with_reducible refine Below.setCell ?_ (by first | (simp; done) | (simp; omega)) _) | (with_reducible refine Below.al ?_ _) | (with_reducible refine Below.dr ?_) | (with_reducible refine Below.drN ?_ _) | (with_reducible refine Below.tr ?_ (by with_reducible assumption))))⟩
set_option maxHeartbeats 4000000 in
theorem walk (v0 : Value) (w : World) (hT : Tab w) (a0 : Arg_texts w v0) : Calls Tryd.prog 4 #[v0] w fun e w' => e = .returned (.bool true) ∧ Below w.heap.size w w' := by
  obtain ⟨X, hX, hz⟩ := a0
  by_cases hg0 : X.length + sumZ X ≤ 1048576
  rotate_left
  · have HN : Hid (szLeftG 1048576 ((X.length + sumZ X : Nat) : Int) = -1) := if_pos (by omega)
    go_enter Tryd.func4, Tryd.ntmps4
    go_wp2_with fail
    refine (c_laws_szStringS X _ _ _ hX hz (by omega)).mono ?_; rintro e Wp ⟨rfl, rfl⟩; rw [HN.out]
    go_wp2
    go_ret
    exact ⟨rfl, by (repeat (first | (with_reducible assumption) | (with_reducible exact Below.refl _ _) | (with_reducible refine Below.setCell ?_ (by first | (simp; done) | (simp; omega)) _) | (with_reducible refine Below.al ?_ _) | (with_reducible refine Below.dr ?_) | (with_reducible refine Below.drN ?_ _) | (with_reducible refine Below.tr ?_ (by with_reducible assumption))))⟩
  obtain ⟨sl0, Hsl0⟩ : ∃ sl, Hid (szLeftG 1048576 ((X.length + sumZ X : Nat) : Int) = sl) := ⟨_, rfl⟩
  have hsl0 : ¬ sl0 < 0 := by have := Hsl0.out; unfold szLeftG at this; rw [if_neg (by omega)] at this; omega
  have HZZ := Lib.hid (zz hg0)
  have HS : Hid (∀ (v : Value) (w : World), RdTC w v X → Tab w → Calls Tryd.prog 14 #[v] w fun e w' => e = .returned (.tuple #[.agg #[.int .i64 (rpH X), .int .i64 (rpM X)], .int .i64 (rpN X), .int .i64 (askC X)]) ∧ Below w.heap.size w w') := Lib.hid (fun v w h t => c_spec_ReplayLines X v w h (zz hg0) t)
  have HI : Hid (∀ (v : Value) (w : World), RdTC w v X → Tab w → Calls Tryd.prog 15 #[v] w fun e w' => e = .returned (.tuple #[.agg #[.int .i64 (rpH X), .int .i64 (rpM X)], .int .i64 (rpN X), .int .i64 (askC X)]) ∧ Below w.heap.size w w') := Lib.hid (fun v w h t => c_impl_ReplayLines X v w h (zz hg0) t)
  generalize rpH X = h at HS HI
  generalize rpM X = m at HS HI
  generalize rpN X = n at HS HI
  generalize askC X = C at HS HI
  have tcn : (n != n) = false := by simp
  have tcc : (C != C) = false := by simp
  go_enter Tryd.func4, Tryd.ntmps4
  go_wp2_with fail
  refine (c_laws_szStringS X _ _ _ hX hz (by omega)).mono ?_; rintro e Wp ⟨rfl, rfl⟩
  rw [Hsl0.out]
  go_wp2_with fail
  refine (c_laws_toStringS X _ _ hX hg0).mono ?_; rintro e W1 ⟨t1, rfl, ht1, hb1⟩
  go_wp2_with fail
  refine (HS.out _ _ (OwnRow.rdtc ht1) (tab_below hT hb1)).mono ?_; rintro e W2 ⟨rfl, hb2⟩
  have B2 := hb1.tr hb2
  obtain ⟨W3, hW3, k0, k1, B3⟩ := oneState W2 30 h m
  have BR3 := B2.tr B3
  go_wp2_with fail
  rw [← hW3]
  clear hW3
  refine (c_laws_toStringS X _ _ (hX.below BR3) hg0).mono ?_; rintro e W4 ⟨t2, rfl, ht2, hb4⟩
  have B4 := BR3.tr hb4
  have k0 := keepc hb4 k0
  have k1 := keepc hb4 k1
  go_wp2_with fail
  refine (HI.out _ _ (OwnRow.rdtc ht2) (tab_below hT B4)).mono ?_; rintro e W5 ⟨rfl, hb5⟩
  have B5 := B4.tr hb5
  have k0 := keepc hb5 k0
  have k1 := keepc hb5 k1
  have ht5 := ht2.below hb5
  have hq : W2.heap.size < W5.heap.size := World.block_lt_of_cell? _ _ k0
  have hn1 : ¬ W5.heap.size = W2.heap.size := by omega
  have hn2 : ¬ W2.heap.size = W5.heap.size := by omega
  go_wp2_with fail
  refine (c_laws_eqState h m _).mono ?_; rintro e W6 ⟨rfl, hb6⟩
  have B6 := (B5.al _).tr hb6
  have ht6 := (ht5.al _).below hb6
  go_wp2_with fail
  refine (c_laws_toStringS X _ _ (hX.below B6) hg0).mono ?_; rintro e W7 ⟨t3, rfl, ht3, hb7⟩
  have B7 := B6.tr hb7
  have ht7 := ht6.below hb7
  go_wp2_with fail
  refine (c_laws_eqStringS X _ _ _ (OwnRow.rd rowT_len ht7) (OwnRow.rd rowT_len ht3)).mono ?_; rintro e W8 ⟨rfl, hb8⟩
  have B8 := B7.tr hb8
  go_wp2
  go_ret
  exact ⟨rfl, B8⟩
theorem own : ownKnob Tryd.prog.godebug = none := by kernel_rfl
theorem laidOut : laidOutB Tryd.prog = true := by kernel_rfl
theorem door_met (os : Os) (args : Array Value) : laidMetH Tryd.prog Rows.fnExactReplayLinesRow.laid ((World.doorLaid Tryd.prog 24 os).forCall (fun _ _ => 0) ⟨#[], args, []⟩).memory :=
  laidMetH_of_parts3 (fuel := 8) (laidMet_of_run' 8 (by kernel_rfl) (by kernel_rfl)) (by kernel_rfl) (by kernel_rfl)
set_option maxRecDepth 100000 in
theorem lifted (os : Os) (started : os.Started) (H : Type) (enc : TypeId × Value → H) :
    ReturnsInHanded {} Tryd.checked os 4 .any (fun w args => (Rows.fnExactReplayLinesSpec.pre enc Tryd.prog Tryd.f4 [] false w args ∧ laidMetH Tryd.prog Rows.fnExactReplayLinesRow.laid w) ∧ sizedMet enc Tryd.prog Tryd.f4 (OpenSpec.ofChange Rows.fnExactReplayLinesSpec) false w args)
      (Rows.fnExactReplayLinesSpec.post enc Tryd.prog Tryd.f4 false true false false) := by
  refine returnsInHanded_of_change_and (C := Tryd.checked) (X := fun w _ => laidMetH Tryd.prog Rows.fnExactReplayLinesRow.laid w) (fun _ _ _ hh h => h.of_heap hh) own started (by kernel_rfl) Tryd.func4
    (ChangeSpec.witness_shaped (enc := enc) (C := Tryd.checked) (os := os) (X := fun w _ => laidMetH Tryd.prog Rows.fnExactReplayLinesRow.laid w) false (World.doorLaid Tryd.prog 24 os) #[.slice none 0 0] 8 rfl (World.shaped_of_RefB (by kernel_rfl) (by kernel_rfl)) (by kernel_rfl) (by kernel_rfl) (by kernel_rfl) (door_met os _)) ?_
  intro W base args ds gs before hval0 hW _ _ hL _
  have hval : ∀ (j : Nat) t v, Tryd.f4.params[j]? = some t → args[j]? = some v → Value.okWide Tryd.prog W .any base t v := hval0
  have hW' := hW
  obtain ⟨p, q, hA0, hV, rfl, hfz, hnd⟩ := hW
  have hA : DataW.TrodAll enc Tryd.prog W 0 (fun _ => true) true Tryd.f4.params.toList args.toList ds p := hA0
  rw [Tryd.params4] at hA hval
  obtain ⟨v0, vs0, d0, ds0, p0, q0, hargs, rfl, rfl, h0, r0⟩ := trodAll_cons hA
  obtain ⟨rfl, rfl, rfl⟩ := trodAll_nil r0
  obtain rfl : args = #[v0] := by cases args; simp_all
  obtain ⟨rfl, rfl⟩ := trodVars_none hV
  have k0 := h0
  have lt0 : ∀ x ∈ p0, x.block < W.heap.size := by obtain ⟨m, hm⟩ := k0; exact DataW.trod_lt m _ _ _ hm
  have a0 := open_texts (hval 0 22 v0 rfl rfl) h0
  clear hA0 hval0
  refine (walk v0 W (tab_of hL) a0).mono fun e W' ⟨he, bel⟩ => ?_
  subst he
  exact ⟨_, rfl, _, _, _, [], _, [], hW', trodAll_mk1 (shut_bool Tryd.underlying4 _), (trodAll_cons_mk (Below.trod laidOut (by kernel_rfl) (of_decide_eq_true (by kernel_rfl)) k0 bel lt0) trodAll_mk0), rfl, bel.frame _, fun h => by cases h⟩
theorem over : Rows.fnExactReplayLinesRow.holds Tryd.pinned (OpenSpec.ofChange Rows.fnExactReplayLinesSpec) :=
  OpenClaim.holds_of_wide 4 Tryd.f4 rfl rfl rfl rfl rfl rfl rfl ⟨rfl, rfl, rfl, rfl, rfl⟩ rfl rfl rfl rfl rfl (by kernel_rfl) Tryd.func4 (by kernel_rfl)
    (of_decide_eq_true (by kernel_rfl)) (by unfold Func.isWrapper; first | (rw [if_pos (by decide +kernel)]; kernel_rfl) | (rw [if_neg (by decide +kernel)]; exact ⟨rfl, rfl⟩))
    (fun os started H enc _ => lifted os started H enc)
theorem proved : Rows.FnExactReplayLinesCardSaid :=
  Claim7.holds_tied_plain_at .later [] Rows.fnExactReplayLinesCard.laidKinds true Rows.fnExactReplayLinesCard.stood.harness false
    over (fun _ h => by cases h) (by kernel_rfl) (fun _ h => by cases h) fnExactReplayLines_row_tie rfl ⟨rfl, rfl⟩ (by kernel_rfl) rfl
    (fun f fn hf hfn => by
      obtain rfl : f = 4 := Option.some.inj ((show Tryd.prog.funcNamed Rows.fnExactReplayLinesRow.func = some 4 by kernel_rfl).symm.trans hf) |>.symm
      obtain rfl : fn = Tryd.f4 := (Option.some.inj (Tryd.func4.symm.trans hfn)).symm
      exact ⟨by kernel_rfl, fun j t ht => by
        rw [Tryd.params4] at ht
        have hm : t ∈ [22] := by simpa using Array.mem_of_getElem? ht
        have hall : ([22].all fun u => !Tryd.prog.wantsStandIn u) = true := by kernel_rfl
        exact (show Tryd.prog.wantsStandIn t = false by simpa using List.all_eq_true.1 hall t hm)⟩)
    (by kernel_rfl)
end fnExactReplayLines
end Go.Proofs.YtjokodlappeapaaDoor
