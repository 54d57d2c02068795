/- The law FnExactDeskText returns true for all desks. The row lists strconv's tables as the program's text lays them (the card ties them). -/
import Derived.Test.YtddfdppoclnpcaaDoorDeskC
namespace Go.Proofs.YtddfdppoclnpcaaDoor
open Go.ChangeShapes Go.WideShapes Go.ChangeAt Go.RowKit
set_option linter.unusedVariables false
set_option linter.unusedSimpArgs false
namespace fnExactDeskText
theorem c_laws_toDesk' (xs : List Int) (b d wd : Int) (v : Value) (w : World) (h : RdI w v xs) (hn : xs.length ≤ 1048576) (w0 : World) (hw : Below w0.heap.size w0 w) :
    Calls Tryd.prog 21 #[.agg #[v, .int .i64 b, .int .i64 d, .int .i64 wd]] w fun e w' => ∃ g, e = .returned (.agg #[.slice (some ⟨g, 0, none⟩) xs.length xs.length, .int .i64 b, .int .i64 d, .int .i64 wd]) ∧ RdI w' (.slice (some ⟨g, 0, none⟩) xs.length xs.length) xs ∧ Below w0.heap.size w0 w' ∧ Below w.heap.size w w' :=
  (c_laws_toDesk xs b d wd v w h hn).mono fun _ _ ⟨g, he, ho, hb⟩ => ⟨g, he, ho.rd, hw.tr hb, hb⟩
set_option maxHeartbeats 4000000 in
theorem walk_small (xs : List Int) (b d wd : Int) (a1 : Option Addr) (cap1 : Nat) (w : World) (h1 : RdI w (.slice a1 xs.length cap1) xs) (hx : (xs.length : Int) ≤ 1048576) (hT : Tab w) :
    Calls Tryd.prog 6 #[.agg #[.slice a1 xs.length cap1, .int .i64 b, .int .i64 d, .int .i64 wd]] w fun e w' => e = .returned (.bool true) ∧ Below w.heap.size w w' := by
  have HL := Lib.hid (szLeft_pos (left := 1048576) (len := xs.length) (by omega))
  have t1 : ¬ szLeft 1048576 xs.length < 0 := by rw [HL.out]; omega
  have hl1 : (xs.length : Int) ≤ 9223372036854775807 := by omega
  have hxn : xs.length ≤ 1048576 := by omega
  obtain ⟨E, HE⟩ : ∃ E, Hid (dskT xs b d wd = E) := ⟨_, Lib.hid rfl⟩
  go_enter Tryd.func6, Tryd.ntmps6
  go_wp2_with fail
  refine (c_laws_szDesk _ _ _ _ _ _ _ _ hl1 (by omega)).mono ?_; rintro e w2 ⟨rfl, hb2⟩; obtain ⟨hc2, hf2⟩ := bcell hb2; have hz2_0 : w.heap.size < w2.heap.size := Nat.lt_of_lt_of_le (by first | omega | (simp; done) | (simp; omega)) hb2.size
  have B2 : Below w.heap.size w w2 := by (repeat (first | (with_reducible assumption) | (with_reducible exact Below.refl _ _) | (with_reducible refine Below.setCell ?_ (by first | (simp; done) | (simp; omega)) _) | (with_reducible refine Below.al ?_ _) | (with_reducible refine Below.dr ?_) | (with_reducible refine Below.drN ?_ _) | (with_reducible refine Below.tr ?_ (by with_reducible assumption))))
  clear hl1 hb2
  have k0 : w2.cell? ⟨w.heap.size, 0, none⟩ = some (.slice a1 xs.length cap1) := by go_simp
  have k1 : w2.cell? ⟨w.heap.size, 1, none⟩ = some (.int .i64 b) := by go_simp
  have k2 : w2.cell? ⟨w.heap.size, 2, none⟩ = some (.int .i64 d) := by go_simp
  have k3 : w2.cell? ⟨w.heap.size, 3, none⟩ = some (.int .i64 wd) := by go_simp
  clear hc2 hf2
  go_wp2_with fail
  refine (c_laws_toDesk' xs b d wd _ _ (h1.below (by (repeat (first | (with_reducible assumption) | (with_reducible exact Below.refl _ _) | (with_reducible refine Below.setCell ?_ (by first | (simp; done) | (simp; omega)) _) | (with_reducible refine Below.al ?_ _) | (with_reducible refine Below.dr ?_) | (with_reducible refine Below.drN ?_ _) | (with_reducible refine Below.tr ?_ (by with_reducible assumption)))))) hxn w2 (by (repeat (first | (with_reducible assumption) | (with_reducible exact Below.refl _ _) | (with_reducible refine Below.setCell ?_ (by first | (simp; done) | (simp; omega)) _) | (with_reducible refine Below.al ?_ _) | (with_reducible refine Below.dr ?_) | (with_reducible refine Below.drN ?_ _) | (with_reducible refine Below.tr ?_ (by with_reducible assumption)))))).mono ?_; rintro e w3 ⟨g3, rfl, hr3, hB3, hb3⟩; obtain ⟨hc3, hf3⟩ := bcell hB3; have hz3_0 : w.heap.size < w3.heap.size := Nat.lt_of_lt_of_le (by first | omega | (simp; done) | (simp; omega)) hB3.size
  go_wp2_with fail
  refine (c_spec_DeskText xs b d wd _ _ hr3).mono ?_; rintro e w4 ⟨rfl, hb4⟩; rw [HE.out]; have hB4 : Below w2.heap.size w2 w4 := hB3.tr hb4; obtain ⟨hc4, hf4⟩ := bcell hB4; have hz4_0 : w.heap.size < w4.heap.size := Nat.lt_of_lt_of_le (by first | omega | (simp; done) | (simp; omega)) hB4.size
  go_wp2_with fail
  refine (c_laws_toDesk' xs b d wd _ _ (h1.below (by (repeat (first | (with_reducible assumption) | (with_reducible exact Below.refl _ _) | (with_reducible refine Below.setCell ?_ (by first | (simp; done) | (simp; omega)) _) | (with_reducible refine Below.al ?_ _) | (with_reducible refine Below.dr ?_) | (with_reducible refine Below.drN ?_ _) | (with_reducible refine Below.tr ?_ (by with_reducible assumption)))))) hxn w2 (by (repeat (first | (with_reducible assumption) | (with_reducible exact Below.refl _ _) | (with_reducible refine Below.setCell ?_ (by first | (simp; done) | (simp; omega)) _) | (with_reducible refine Below.al ?_ _) | (with_reducible refine Below.dr ?_) | (with_reducible refine Below.drN ?_ _) | (with_reducible refine Below.tr ?_ (by with_reducible assumption)))))).mono ?_; rintro e w6 ⟨g6, rfl, hr6, hB6, hb6⟩; obtain ⟨hc6, hf6⟩ := bcell hB6; have hz6_0 : w.heap.size < w6.heap.size := Nat.lt_of_lt_of_le (by first | omega | (simp; done) | (simp; omega)) hB6.size
  go_wp2_with fail
  refine (c_impl_DeskText xs b d wd _ _ (hr6.below ((Below.refl _ _).al _)) (tab_below hT (B2.tr (hB6.al _)))).mono ?_; rintro e w8 ⟨rfl, hb8⟩; rw [HE.out]
  have hB8 : Below w2.heap.size w2 w8 := (hB6.al _).tr hb8
  obtain ⟨hc8, hf8⟩ := bcell hB8; have hz8_0 : w.heap.size < w8.heap.size := Nat.lt_of_lt_of_le (by first | omega | (simp; done) | (simp; omega)) hB8.size
  obtain ⟨hcb8, _⟩ := bcell hb8
  have hz68 : w6.heap.size < w8.heap.size := Nat.lt_of_lt_of_le (by simp) hb8.size
  go_wp2_with fail
  have m0 : w8.cell? ⟨w6.heap.size, 0, none⟩ = some (.slice (some ⟨g6, 0, none⟩) xs.length xs.length) := by go_simp
  have m1 : w8.cell? ⟨w6.heap.size, 1, none⟩ = some (.int .i64 b) := by go_simp
  have m2 : w8.cell? ⟨w6.heap.size, 2, none⟩ = some (.int .i64 d) := by go_simp
  have m3 : w8.cell? ⟨w6.heap.size, 3, none⟩ = some (.int .i64 wd) := by go_simp
  have r6 : RdI w8 (.slice (some ⟨g6, 0, none⟩) xs.length xs.length) xs := (hr6.below ((Below.refl _ _).al _)).below hb8
  have kk0 : w8.cell? ⟨w.heap.size, 0, none⟩ = some (.slice a1 xs.length cap1) := by go_simp
  have kk1 : w8.cell? ⟨w.heap.size, 1, none⟩ = some (.int .i64 b) := by go_simp
  have kk2 : w8.cell? ⟨w.heap.size, 2, none⟩ = some (.int .i64 d) := by go_simp
  have kk3 : w8.cell? ⟨w.heap.size, 3, none⟩ = some (.int .i64 wd) := by go_simp
  have B8 : Below w.heap.size w w8 := B2.tr hB8
  clear hcb8 hc8 hf8 hb8 hr6 k0 k1 k2 k3 hB8 hB6 hb6 hc6 hf6 hc4 hf4 hB4 hb4 hc3 hf3 hB3 hb3
  go_region_held3 (fun w' => w'.cell? ⟨w.heap.size, 0, none⟩ = some (.slice a1 xs.length cap1) ∧ w'.cell? ⟨w.heap.size, 1, none⟩ = some (.int .i64 b) ∧ w'.cell? ⟨w.heap.size, 2, none⟩ = some (.int .i64 d) ∧ w'.cell? ⟨w.heap.size, 3, none⟩ = some (.int .i64 wd) ∧
      w'.cell? ⟨w6.heap.size, 0, none⟩ = some (.slice (some ⟨g6, 0, none⟩) xs.length xs.length) ∧ w'.cell? ⟨w6.heap.size, 1, none⟩ = some (.int .i64 b) ∧ w'.cell? ⟨w6.heap.size, 2, none⟩ = some (.int .i64 d) ∧ w'.cell? ⟨w6.heap.size, 3, none⟩ = some (.int .i64 wd))
    (go_keep)
    (first
      | (go_at_call 21; refine (c_laws_toDesk' xs b d wd _ _ (h1.below (by (repeat (first | (with_reducible assumption) | (with_reducible exact Below.refl _ _) | (with_reducible refine Below.setCell ?_ (by first | (simp; done) | (simp; omega)) _) | (with_reducible refine Below.al ?_ _) | (with_reducible refine Below.dr ?_) | (with_reducible refine Below.drN ?_ _) | (with_reducible refine Below.tr ?_ (by with_reducible assumption)))))) hxn w8 (by (repeat (first | (with_reducible assumption) | (with_reducible exact Below.refl _ _) | (with_reducible refine Below.setCell ?_ (by first | (simp; done) | (simp; omega)) _) | (with_reducible refine Below.al ?_ _) | (with_reducible refine Below.dr ?_) | (with_reducible refine Below.drN ?_ _) | (with_reducible refine Below.tr ?_ (by with_reducible assumption)))))).mono ?_; rintro e w9 ⟨g9, rfl, hr9, hB9, hb9⟩; obtain ⟨hc9, hf9⟩ := bcell hB9; have hz9_0 : w.heap.size < w9.heap.size := Nat.lt_of_lt_of_le (by first | omega | (simp; done) | (simp; omega)) hB9.size)
      | (go_at_call 23; refine (c_laws_eqDesk xs b d wd _ _ _ (r6.below hB9) hr9).mono ?_; rintro e w10 ⟨rfl, hb10⟩; have hB10 : Below w8.heap.size w8 w10 := hB9.tr hb10; obtain ⟨hc10, hf10⟩ := bcell hB10; have hz10_0 : w.heap.size < w10.heap.size := Nat.lt_of_lt_of_le (by first | omega | (simp; done) | (simp; omega)) hB10.size))
  have B10 : Below w.heap.size w w10 := B8.tr hB10
  go_wp2
  go_ret
  exact ⟨rfl, B10⟩
theorem walk_big (xs : List Int) (b d wd : Int) (a1 : Option Addr) (cap1 : Nat) (w : World) (hl1 : (xs.length : Int) ≤ 9223372036854775807) (hx : (1048576 : Int) - xs.length < 0) :
    Calls Tryd.prog 6 #[.agg #[.slice a1 xs.length cap1, .int .i64 b, .int .i64 d, .int .i64 wd]] w fun e w' => e = .returned (.bool true) ∧ Below w.heap.size w w' := by
  have HL := Lib.hid (szLeft_neg hx)
  have t1 : szLeft 1048576 xs.length < 0 := by rw [HL.out]; decide
  go_enter Tryd.func6, Tryd.ntmps6
  go_wp2_with fail
  refine (c_laws_szDesk _ _ _ _ _ _ _ _ hl1 (by omega)).mono ?_; rintro e w1 ⟨rfl, hb1⟩
  go_wp2
  go_ret
  exact ⟨rfl, by (repeat (first | (with_reducible assumption) | (with_reducible exact Below.refl _ _) | (with_reducible refine Below.setCell ?_ (by first | (simp; done) | (simp; omega)) _) | (with_reducible refine Below.al ?_ _) | (with_reducible refine Below.dr ?_) | (with_reducible refine Below.drN ?_ _) | (with_reducible refine Below.tr ?_ (by with_reducible assumption))))⟩
theorem walk (v0 : Value) (w : World) (hT : Tab w) (p0 : Arg_Desk w v0) : Calls Tryd.prog 6 #[v0] w fun e w' => e = .returned (.bool true) ∧ Below w.heap.size w w' := by
  obtain ⟨u1, xs, b, d, wd, rfl, h1⟩ := p0
  have h1' := h1
  obtain ⟨a1, cap1, rfl, hl1, _⟩ := h1'
  by_cases hx : (1048576 : Int) - xs.length < 0
  · exact walk_big xs b d wd a1 cap1 w (by omega) hx
  · exact walk_small xs b d wd a1 cap1 w h1 (by omega) hT
theorem own : ownKnob Tryd.prog.godebug = none := by kernel_rfl
theorem laidOut : laidOutB Tryd.prog = true := by kernel_rfl
theorem door_met (os : Os) (args : Array Value) : laidMetH Tryd.prog Rows.fnExactDeskTextRow.laid ((World.doorLaid Tryd.prog 24 os).forCall (fun _ _ => 0) ⟨#[], args, []⟩).memory :=
  laidMetH_of_parts3 (fuel := 8) (laidMet_of_run' 8 (by kernel_rfl) (by kernel_rfl)) (by kernel_rfl) (by kernel_rfl)
set_option maxRecDepth 100000 in
theorem lifted (os : Os) (started : os.Started) (H : Type) (enc : TypeId × Value → H) :
    ReturnsInHanded {} Tryd.checked os 6 .any (fun w args => (Rows.fnExactDeskTextSpec.pre enc Tryd.prog Tryd.f6 [] false w args ∧ laidMetH Tryd.prog Rows.fnExactDeskTextRow.laid w) ∧ sizedMet enc Tryd.prog Tryd.f6 (OpenSpec.ofChange Rows.fnExactDeskTextSpec) false w args)
      (Rows.fnExactDeskTextSpec.post enc Tryd.prog Tryd.f6 false true false false) := by
  refine returnsInHanded_of_change_and (C := Tryd.checked) (X := fun w _ => laidMetH Tryd.prog Rows.fnExactDeskTextRow.laid w) (fun _ _ _ hh h => h.of_heap hh) own started (by kernel_rfl) Tryd.func6
    (ChangeSpec.witness_shaped (enc := enc) (C := Tryd.checked) (os := os) (X := fun w _ => laidMetH Tryd.prog Rows.fnExactDeskTextRow.laid w) false (World.doorLaid Tryd.prog 24 os) #[.agg #[.slice none 0 0, .int .i64 0, .int .i64 0, .int .i64 0]] 8 rfl (World.shaped_of_RefB (by kernel_rfl) (by kernel_rfl)) (by kernel_rfl) (by kernel_rfl) (by kernel_rfl) (door_met os _)) ?_
  intro W base args ds gs before hval0 hW _ _ hL _
  have hval : ∀ (j : Nat) t v, Tryd.f6.params[j]? = some t → args[j]? = some v → Value.okWide Tryd.prog W .any base t v := hval0
  have hW' := hW
  obtain ⟨p, q, hA0, hV, rfl, hfz, hnd⟩ := hW
  have hA : DataW.TrodAll enc Tryd.prog W 0 (fun _ => true) true Tryd.f6.params.toList args.toList ds p := hA0
  rw [Tryd.params6] at hA hval
  obtain ⟨v0, vs0, d0, ds0, p0, q0, hargs, rfl, rfl, h0, r0⟩ := trodAll_cons hA
  obtain ⟨rfl, rfl, rfl⟩ := trodAll_nil r0
  obtain rfl : args = #[v0] := by cases args; simp_all
  obtain ⟨rfl, rfl⟩ := trodVars_none hV
  have k0 := h0
  have lt0 : ∀ x ∈ p0, x.block < W.heap.size := by obtain ⟨m, hm⟩ := k0; exact DataW.trod_lt m _ _ _ hm
  have a0 := open_Desk (hval 0 53 v0 rfl rfl) h0
  clear hA0 hval0
  refine (walk v0 W (tab_of hL) a0).mono fun e W' ⟨he, bel⟩ => ?_
  subst he
  exact ⟨_, rfl, _, _, _, [], _, [], hW', trodAll_mk1 (shut_bool Tryd.underlying4 _), (trodAll_cons_mk (Below.trod laidOut (by kernel_rfl) (of_decide_eq_true (by kernel_rfl)) k0 bel lt0) trodAll_mk0), rfl, bel.frame _, fun h => by cases h⟩
theorem over : Rows.fnExactDeskTextRow.holds Tryd.pinned (OpenSpec.ofChange Rows.fnExactDeskTextSpec) :=
  OpenClaim.holds_of_wide 6 Tryd.f6 rfl rfl rfl rfl rfl rfl rfl ⟨rfl, rfl, rfl, rfl, rfl⟩ rfl rfl rfl rfl rfl (by kernel_rfl) Tryd.func6 (by kernel_rfl)
    (of_decide_eq_true (by kernel_rfl)) (by unfold Func.isWrapper; first | (rw [if_pos (by decide +kernel)]; kernel_rfl) | (rw [if_neg (by decide +kernel)]; exact ⟨rfl, rfl⟩))
    (fun os started H enc _ => lifted os started H enc)
theorem proved : Rows.FnExactDeskTextCardSaid :=
  Claim7.holds_tied_plain_at .later [] Rows.fnExactDeskTextCard.laidKinds true Rows.fnExactDeskTextCard.stood.harness false
    over (fun _ h => by cases h) (by kernel_rfl) (fun _ h => by cases h) fnExactDeskText_row_tie rfl ⟨rfl, rfl⟩ (by kernel_rfl) rfl
    (fun f fn hf hfn => by
      obtain rfl : f = 6 := Option.some.inj ((show Tryd.prog.funcNamed Rows.fnExactDeskTextRow.func = some 6 by kernel_rfl).symm.trans hf) |>.symm
      obtain rfl : fn = Tryd.f6 := (Option.some.inj (Tryd.func6.symm.trans hfn)).symm
      exact ⟨by kernel_rfl, fun j t ht => by
        rw [Tryd.params6] at ht
        have hm : t ∈ [53] := by simpa using Array.mem_of_getElem? ht
        have hall : ([53].all fun u => !Tryd.prog.wantsStandIn u) = true := by kernel_rfl
        exact (show Tryd.prog.wantsStandIn t = false by simpa using List.all_eq_true.1 hall t hm)⟩)
    (by kernel_rfl)
end fnExactDeskText
end Go.Proofs.YtddfdppoclnpcaaDoor
