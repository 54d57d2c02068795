/- The law FnExactCheckedLines returns true for all slices of strings. The row lists strconv's tables as the program's text lays them (the card ties them). -/
import Derived.Test.YtjokodlappeapaaDoorRecO
import Derived.Test.YtjokodlappeapaaDoorLawZ
import Derived.Test.YtjokodlappeapaaDoorDoorF
namespace Go.Proofs.YtjokodlappeapaaDoor
open Go.ChangeShapes Go.WideShapes Go.ChangeAt Go.RowKit
set_option linter.unusedVariables false
namespace fnExactCheckedLines
theorem zz {X : List ByteArray} (h : X.length + sumZ X ≤ 1048576) : ∀ s ∈ X, s.size ≤ 2000000 := fun s hs => by
  have := sumZ_mem hs
  omega
set_option maxHeartbeats 4000000 in
theorem walk_gen (w : World) (hT : Tab w) (a0x : List ByteArray) (a0v : Value) (a0r : RdRow 1 rowT w a0v a0x) (a0z : ∀ s ∈ a0x, s.size ≤ maxLen) (d0 : List ByteArray) (c1 : Int) (hd0 : (d0).length ≤ 1000000)
    (hs : ∀ (w : World) (u0 : Value) (_ : RdTC w u0 a0x ∧ a0x.length + sumZ a0x ≤ 1048576) (_ : Tab w), Calls Tryd.prog 26 #[u0] w fun e w' => ∃ r0, e = .returned (.tuple #[r0, .int .i64 c1]) ∧ OwnT w.heap.size w'.heap.size w' r0 d0 ∧ Below w.heap.size w w')
    (hi : ∀ (w : World) (u0 : Value) (_ : RdTC w u0 a0x ∧ a0x.length + sumZ a0x ≤ 1048576) (_ : Tab w), Calls Tryd.prog 27 #[u0] w fun e w' => ∃ r0, e = .returned (.tuple #[r0, .int .i64 c1]) ∧ OwnT w.heap.size w'.heap.size w' r0 d0 ∧ Below w.heap.size w w') :
    Calls Tryd.prog 7 #[a0v] w fun e w' => e = .returned (.bool true) ∧ Below w.heap.size w w' := by
  have HS := Lib.hid hs
  have HI := Lib.hid hi
  clear hs hi
  have tc1 : (c1 != c1) = false := by simp
  by_cases hg0 : a0x.length + sumZ a0x ≤ 1048576
  rotate_left
  · have HN : Hid (szLeftG 1048576 ((a0x.length + sumZ a0x : Nat) : Int) = -1) := if_pos (by omega)
    go_enter Tryd.func7, Tryd.ntmps7
    go_wp2_with fail
    refine (c_laws_szStringS a0x _ _ _ a0r a0z (by omega)).mono ?_; rintro e Wp ⟨rfl, rfl⟩; rw [HN.out]
    go_wp2
    go_ret
    exact ⟨rfl, by (repeat (first | (with_reducible assumption) | (with_reducible exact Below.refl _ _) | (with_reducible refine Below.setCell ?_ (by first | (simp; done) | (simp; omega)) _) | (with_reducible refine Below.al ?_ _) | (with_reducible refine Below.dr ?_) | (with_reducible refine Below.drN ?_ _) | (with_reducible refine Below.tr ?_ (by with_reducible assumption))))⟩
  obtain ⟨sl0, Hsl0⟩ : ∃ sl, Hid (szLeftG 1048576 ((a0x.length + sumZ a0x : Nat) : Int) = sl) := ⟨_, rfl⟩
  have hsl0 : ¬ sl0 < 0 := by have := Hsl0.out; unfold szLeftG at this; rw [if_neg (by omega)] at this; omega
  go_enter Tryd.func7, Tryd.ntmps7
  go_wp2_with fail
  obtain ⟨W0, hW0⟩ : ∃ W0, W0 = w := ⟨_, rfl⟩
  have B0 : Below w.heap.size w W0 := by rw [hW0]; (repeat (first | (with_reducible assumption) | (with_reducible exact Below.refl _ _) | (with_reducible refine Below.setCell ?_ (by first | (simp; done) | (simp; omega)) _) | (with_reducible refine Below.al ?_ _) | (with_reducible refine Below.dr ?_) | (with_reducible refine Below.drN ?_ _) | (with_reducible refine Below.tr ?_ (by with_reducible assumption))))
  have hs00 : w.heap.size ≤ W0.heap.size := B0.size
  rw [← hW0]
  clear hW0
  refine (c_laws_szStringS a0x _ _ _ (a0r.below B0) a0z (by omega)).mono ?_; rintro e Wp ⟨rfl, rfl⟩
  rw [Hsl0.out]
  go_wp2_with fail
  refine (c_laws_toStringS a0x _ _ (a0r.below B0) (by omega)).mono ?_; rintro e W1 ⟨t1, rfl, ht1, hb1⟩
  have hs1 := hb1.size
  have B1 : Below w.heap.size w W1 := B0.tr hb1
  go_wp2_with fail
  refine (HS.out _ _ ⟨(OwnRow.rdtc ht1), by omega⟩ (tab_below hT B1)).mono ?_; rintro e W2 ⟨w0, rfl, hw0, hb2⟩
  have hs2 := hb2.size
  have B2 : Below w.heap.size w W2 := B1.tr hb2
  go_wp2_with fail
  refine (c_laws_toStringS a0x _ _ (a0r.below B2) (by omega)).mono ?_; rintro e W3 ⟨t2, rfl, ht2, hb3⟩
  have hs3 := hb3.size
  have B3 : Below w.heap.size w W3 := B2.tr hb3
  go_wp2_with fail
  refine (HI.out _ _ ⟨(OwnRow.rdtc ht2), by omega⟩ (tab_below hT B3)).mono ?_; rintro e W4 ⟨g0, rfl, hg0, hb4⟩
  have hs4 := hb4.size
  have B4 : Below w.heap.size w W4 := B3.tr hb4
  go_wp2_with fail
  refine (c_laws_eqStringS d0 _ _ _ (OwnRow.rd rowT_len (hg0)) (OwnRow.rd rowT_len (((hw0).below hb3).below hb4))).mono ?_; rintro e W5 ⟨rfl, hb5⟩
  have hs5 := hb5.size
  have B5 : Below w.heap.size w W5 := B4.tr hb5
  go_wp2_with fail
  refine (c_laws_toStringS a0x _ _ (a0r.below B5) (by omega)).mono ?_; rintro e W6 ⟨t3, rfl, ht3, hb6⟩
  have hs6 := hb6.size
  have B6 : Below w.heap.size w W6 := B5.tr hb6
  go_wp2_with fail
  refine (c_laws_eqStringS a0x _ _ _ (OwnRow.rd rowT_len (((ht2.below hb4).below hb5).below hb6)) (OwnRow.rd rowT_len ht3)).mono ?_; rintro e W7 ⟨rfl, hb7⟩
  have hs7 := hb7.size
  have B7 : Below w.heap.size w W7 := B6.tr hb7
  go_wp2_with fail
  refine (c_laws_markStringSI W2.heap.size W3.heap.size a0x 1 _ _ ((((ht2.below hb4).below hb5).below hb6).below hb7) (by omega) (by omega) (by omega)).mono ?_; rintro e W8 ⟨rfl, hm8, hu8⟩
  have hs8 := hu8.size
  have B8 : Below w.heap.size w W8 := B7.trans (hu8.below (by omega) (by omega))
  have hv8 : 0 ≤ (1 + ((a0x).length : Int)) := by omega
  have tk : ¬ ((1 + ((a0x).length : Int)) < 0) := by omega
  go_wp2_with fail
  refine (c_laws_eqStringS d0 _ _ _ (OwnRow.rd rowT_len (((((hg0).below hb5).below hb6).below hb7).upd hu8 (by omega))) (OwnRow.rd rowT_len (((((((hw0).below hb3).below hb4).below hb5).below hb6).below hb7).upd hu8 (by omega)))).mono ?_; rintro e W9 ⟨rfl, hb9⟩
  have hs9 := hb9.size
  have B9 : Below w.heap.size w W9 := B8.tr hb9
  go_wp2_with fail
  refine (c_laws_markStringSI W3.heap.size W4.heap.size d0 1 _ _ ((((((hg0).below hb5).below hb6).below hb7).upd hu8 (by omega)).below hb9) (by omega) (by omega) (by omega)).mono ?_; rintro e W10 ⟨rfl, hm10, hu10⟩
  have hs10 := hu10.size
  have B10 : Below w.heap.size w W10 := B9.trans (hu10.below (by omega) (by omega))
  have hv10 : 0 ≤ (1 + ((d0).length : Int)) := by omega
  go_wp2_with fail
  refine (c_laws_heldStringSI (d0).length 1 _ _ (OwnRow.rd rowT_len hm10) (by omega) (by omega)).mono ?_; rintro e W11 ⟨rfl, hb11⟩
  have hs11 := hb11.size
  have B11 : Below w.heap.size w W11 := B10.tr hb11
  have tn22 : ¬ ((1 + ((d0).length : Int)) < 0) := by omega
  have te22 : ((1 + ((d0).length : Int)) != (1 + ((d0).length : Int))) = false := by simp
  go_wp2_with fail
  refine (c_laws_toStringS a0x _ _ (a0r.below B11) (by omega)).mono ?_; rintro e W12 ⟨t4, rfl, ht4, hb12⟩
  have hs12 := hb12.size
  have B12 : Below w.heap.size w W12 := B11.tr hb12
  go_wp2_with fail
  refine (HI.out _ _ ⟨(OwnRow.rdtc ht4), by omega⟩ (tab_below hT B12)).mono ?_; rintro e W13 ⟨h0, rfl, hh0, hb13⟩
  have hs13 := hb13.size
  have B13 : Below w.heap.size w W13 := B12.tr hb13
  go_wp2_with fail
  refine (c_laws_eqStringS d0 _ _ _ (OwnRow.rd rowT_len (hh0)) (OwnRow.rd rowT_len ((((((((((((hw0).below hb3).below hb4).below hb5).below hb6).below hb7).upd hu8 (by omega)).below hb9).upd hu10 (by omega)).below hb11).below hb12).below hb13))).mono ?_; rintro e W14 ⟨rfl, hb14⟩
  have hs14 := hb14.size
  have B14 : Below w.heap.size w W14 := B13.tr hb14
  go_wp2_with fail
  refine (c_laws_heldStringSI (d0).length 1 _ _ (OwnRow.rd rowT_len ((((hm10.below hb11).below hb12).below hb13).below hb14)) (by omega) (by omega)).mono ?_; rintro e W15 ⟨rfl, hb15⟩
  have hs15 := hb15.size
  have B15 : Below w.heap.size w W15 := B14.tr hb15
  have tn34 : ¬ ((1 + ((d0).length : Int)) < 0) := by omega
  have te34 : ((1 + ((d0).length : Int)) != (1 + ((d0).length : Int))) = false := by simp
  go_wp2
  go_ret
  exact ⟨rfl, B15⟩
theorem walk (v0 : Value) (w : World) (hT : Tab w) (a0 : Arg_texts w v0) : Calls Tryd.prog 7 #[v0] w fun e w' => e = .returned (.bool true) ∧ Below w.heap.size w w' := by
  obtain ⟨X, hX, hz⟩ := a0
  exact walk_gen w hT X v0 hX hz _ _ (ckL_len X) (fun w u hu ht => c_spec_CheckedLines X u w hu.1 (zz hu.2) ht) (fun w u hu ht => c_impl_CheckedLines X u w hu.1 (zz hu.2) ht)
theorem own : ownKnob Tryd.prog.godebug = none := by kernel_rfl
theorem laidOut : laidOutB Tryd.prog = true := by kernel_rfl
theorem door_met (os : Os) (args : Array Value) : laidMetH Tryd.prog Rows.fnExactCheckedLinesRow.laid ((World.doorLaid Tryd.prog 24 os).forCall (fun _ _ => 0) ⟨#[], args, []⟩).memory :=
  laidMetH_of_parts3 (fuel := 8) (laidMet_of_run' 8 (by kernel_rfl) (by kernel_rfl)) (by kernel_rfl) (by kernel_rfl)
set_option maxRecDepth 100000 in
theorem lifted (os : Os) (started : os.Started) (H : Type) (enc : TypeId × Value → H) :
    ReturnsInHanded {} Tryd.checked os 7 .any (fun w args => (Rows.fnExactCheckedLinesSpec.pre enc Tryd.prog Tryd.f7 [] false w args ∧ laidMetH Tryd.prog Rows.fnExactCheckedLinesRow.laid w) ∧ sizedMet enc Tryd.prog Tryd.f7 (OpenSpec.ofChange Rows.fnExactCheckedLinesSpec) false w args)
      (Rows.fnExactCheckedLinesSpec.post enc Tryd.prog Tryd.f7 false true false false) := by
  refine returnsInHanded_of_change_and (C := Tryd.checked) (X := fun w _ => laidMetH Tryd.prog Rows.fnExactCheckedLinesRow.laid w) (fun _ _ _ hh h => h.of_heap hh) own started (by kernel_rfl) Tryd.func7
    (ChangeSpec.witness_shaped (enc := enc) (C := Tryd.checked) (os := os) (X := fun w _ => laidMetH Tryd.prog Rows.fnExactCheckedLinesRow.laid w) false (World.doorLaid Tryd.prog 24 os) #[.slice none 0 0] 8 rfl (World.shaped_of_RefB (by kernel_rfl) (by kernel_rfl)) (by kernel_rfl) (by kernel_rfl) (by kernel_rfl) (door_met os _)) ?_
  intro W base args ds gs before hval0 hW _ _ hL _
  have hval : ∀ (j : Nat) t v, Tryd.f7.params[j]? = some t → args[j]? = some v → Value.okWide Tryd.prog W .any base t v := hval0
  have hW' := hW
  obtain ⟨p, q, hA0, hV, rfl, hfz, hnd⟩ := hW
  have hA : DataW.TrodAll enc Tryd.prog W 0 (fun _ => true) true Tryd.f7.params.toList args.toList ds p := hA0
  rw [Tryd.params7] at hA hval
  obtain ⟨v0, vs0, d0, ds0, p0, q0, hargs, rfl, rfl, h0, r0⟩ := trodAll_cons hA
  obtain ⟨rfl, rfl, rfl⟩ := trodAll_nil r0
  obtain rfl : args = #[v0] := by cases args; simp_all
  obtain ⟨rfl, rfl⟩ := trodVars_none hV
  have k0 := h0
  have lt0 : ∀ x ∈ p0, x.block < W.heap.size := by obtain ⟨m, hm⟩ := k0; exact DataW.trod_lt m _ _ _ hm
  have a0 := open_texts (hval 0 22 v0 rfl rfl) h0
  clear hA0 hval0
  refine (walk v0 W (tab_of hL) a0).mono fun e W' ⟨he, bel⟩ => ?_
  subst he
  exact ⟨_, rfl, _, _, _, [], _, [], hW', trodAll_mk1 (shut_bool Tryd.underlying4 _), (trodAll_cons_mk (Below.trod laidOut (by kernel_rfl) (of_decide_eq_true (by kernel_rfl)) k0 bel lt0) trodAll_mk0), rfl, bel.frame _, fun h => by cases h⟩
theorem over : Rows.fnExactCheckedLinesRow.holds Tryd.pinned (OpenSpec.ofChange Rows.fnExactCheckedLinesSpec) :=
  OpenClaim.holds_of_wide 7 Tryd.f7 rfl rfl rfl rfl rfl rfl rfl ⟨rfl, rfl, rfl, rfl, rfl⟩ rfl rfl rfl rfl rfl (by kernel_rfl) Tryd.func7 (by kernel_rfl)
    (of_decide_eq_true (by kernel_rfl)) (by unfold Func.isWrapper; first | (rw [if_pos (by decide +kernel)]; kernel_rfl) | (rw [if_neg (by decide +kernel)]; exact ⟨rfl, rfl⟩))
    (fun os started H enc _ => lifted os started H enc)
theorem proved : Rows.FnExactCheckedLinesCardSaid :=
  Claim7.holds_tied_plain_at .later [] Rows.fnExactCheckedLinesCard.laidKinds true Rows.fnExactCheckedLinesCard.stood.harness false
    over (fun _ h => by cases h) (by kernel_rfl) (fun _ h => by cases h) fnExactCheckedLines_row_tie rfl ⟨rfl, rfl⟩ (by kernel_rfl) rfl
    (fun f fn hf hfn => by
      obtain rfl : f = 7 := Option.some.inj ((show Tryd.prog.funcNamed Rows.fnExactCheckedLinesRow.func = some 7 by kernel_rfl).symm.trans hf) |>.symm
      obtain rfl : fn = Tryd.f7 := (Option.some.inj (Tryd.func7.symm.trans hfn)).symm
      exact ⟨by kernel_rfl, fun j t ht => by
        rw [Tryd.params7] at ht
        have hm : t ∈ [22] := by simpa using Array.mem_of_getElem? ht
        have hall : ([22].all fun u => !Tryd.prog.wantsStandIn u) = true := by kernel_rfl
        exact (show Tryd.prog.wantsStandIn t = false by simpa using List.all_eq_true.1 hall t hm)⟩)
    (by kernel_rfl)
end fnExactCheckedLines
end Go.Proofs.YtjokodlappeapaaDoor
