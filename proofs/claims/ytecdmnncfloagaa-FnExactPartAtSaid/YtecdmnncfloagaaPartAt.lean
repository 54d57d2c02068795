/- FnExactPartAt: PartAt returns what the reference's returns. Proved for every argument that the statement allows. -/
import Derived.Test.YtecdmnncfloagaaPartI
import Derived.Test.YtecdmnncfloagaaArgsP
namespace Go.Proofs.Ytecdmnncfloagaa
open Go.ChangeShapes Go.WideShapes Go.ChangeAt Go.RowKit
set_option linter.unusedVariables false
namespace fnExactPartAt
set_option maxHeartbeats 8000000 in
set_option maxRecDepth 100000 in
theorem walk_small (X : List Part2) (h bt : Int) (a1 : Option Addr) (cap1 : Nat) (w : World) (hr : RdP w (.slice a1 X.length cap1) X) (hx : X.length + sumP X ≤ 1048576) :
    Calls Try.prog 9 #[.agg #[.int .i64 h, .slice a1 X.length cap1], .int .i64 bt] w fun e w' => e = .returned (.bool true) ∧ Below w.heap.size w w' := by
  obtain ⟨W0, hW0, k0, k1, B0⟩ := routOf w 77 h (.slice a1 X.length cap1)
  have sW0 : w.heap.size < W0.heap.size := World.block_lt_of_cell? W0 _ k0
  have HSZ : Hid (szLeftG 1048576 ((X.length + sumP X : Nat) : Int) = 1048576 - ((X.length + sumP X : Nat) : Int)) := if_neg (by omega)
  have HR := Lib.hid hr
  obtain ⟨EV, HE⟩ : ∃ e : Int, Hid (ptX h X bt = e) := ⟨_, rfl⟩
  obtain ⟨CV, HC⟩ : ∃ e : Int, Hid (ptC h X bt = e) := ⟨_, rfl⟩
  have HB := Lib.hid hx
  obtain ⟨T, HT⟩ : ∃ T : Nat, Hid (X.length + sumP X = T) := ⟨_, rfl⟩
  rw [HT.out] at HSZ
  have hT : (T : Int) ≤ 1048576 := by have := HT.out; omega
  have hl1 : X.length ≤ 9223372036854775807 := by omega
  clear hr hx
  go_enter Try.func9, Try.ntmps9
  go_wp2_with fail
  rw [← hW0]
  clear hW0
  refine (c_laws_szRoutine X 1048576 h _ _ (HR.out.below B0) (by omega)).mono ?_; rintro e w1 ⟨rfl, hb1⟩
  rw [HT.out, HSZ.out]
  have hn0 : ¬ (1048576 : Int) - (T : Int) < 0 := by omega
  have k0 := keepc hb1 k0
  have k1 := keepc hb1 k1
  have B1 := B0.tr hb1
  go_wp2_with fail
  refine (c_laws_toRoutine X h _ _ (HR.out.below B1) HB.out).mono ?_; rintro e w2 ⟨g2, U2, rfl, ho2, hb2⟩
  have k0 := keepc hb2 k0
  have k1 := keepc hb2 k1
  have B2 := B1.tr hb2
  go_wp2_with fail
  refine (c_spec_PartAt X h bt _ _ (ho2.rd hl1)).mono ?_; rintro e w3 ⟨rfl, hb3⟩
  rw [HE.out, HC.out]
  have k0 := keepc hb3 k0
  have k1 := keepc hb3 k1
  have B3 := B2.tr hb3
  go_wp2_with fail
  refine (c_laws_toRoutine X h _ _ (HR.out.below B3) HB.out).mono ?_; rintro e w4 ⟨g4, U4, rfl, ho4, hb4⟩
  have k0 := keepc hb4 k0
  have k1 := keepc hb4 k1
  have B4 := B3.tr hb4
  have m0 : (w4.alloc (Obj.cells #[.int .i64 h, .slice (some ⟨g4, 0, none⟩) X.length X.length] 82)).cell? ⟨w4.heap.size, 0, none⟩ = some (.int .i64 h) := World.cell?_alloc_at _ _ _ _ rfl
  have m1 : (w4.alloc (Obj.cells #[.int .i64 h, .slice (some ⟨g4, 0, none⟩) X.length X.length] 82)).cell? ⟨w4.heap.size, 1, none⟩ = some (.slice (some ⟨g4, 0, none⟩) X.length X.length) := World.cell?_alloc_at _ _ _ _ rfl
  have BA : Below w4.heap.size w4 (w4.alloc (Obj.cells #[.int .i64 h, .slice (some ⟨g4, 0, none⟩) X.length X.length] 82)) := (Below.refl _ _).al _
  go_wp2_with fail
  generalize (w4.alloc (Obj.cells #[.int .i64 h, .slice (some ⟨g4, 0, none⟩) X.length X.length] 82)) = W4 at *
  obtain ⟨n4, Hn4⟩ : ∃ n4, Hid (w4.heap.size = n4) := ⟨_, rfl⟩
  rw [show w4.heap.size = n4 from Hn4.out]
  rw [Hn4.out] at m0 m1
  have k0 := keepc BA k0
  have k1 := keepc BA k1
  refine (c_impl_PartAt X h bt _ _ ((ho4.below BA).rd hl1)).mono ?_; rintro e w5 ⟨rfl, hb5⟩
  rw [HE.out, HC.out]
  have k0 := keepc hb5 k0
  have k1 := keepc hb5 k1
  have m0 := keepc hb5 m0
  have m1 := keepc hb5 m1
  have B5 := (B4.tr BA).tr hb5
  have te : (EV != EV) = false := by simp
  have tc : (CV != CV) = false := by simp
  have B6 := B5
  have B46 := BA.tr hb5
  have ho6 := ho4.below B46
  go_wp2_with fail
  go_region_held3 (fun w' => w'.cell? ⟨w.heap.size, 0, none⟩ = some (.int .i64 h) ∧ w'.cell? ⟨w.heap.size, 1, none⟩ = some (.slice a1 X.length cap1) ∧ w'.cell? ⟨n4, 0, none⟩ = some (.int .i64 h) ∧ w'.cell? ⟨n4, 1, none⟩ = some (.slice (some ⟨g4, 0, none⟩) X.length X.length))
    (go_keep)
    (first
      | ((go_at_call 61; refine (c_laws_toRoutine X h _ _ ((HR.out.below B6).below ((Below.refl _ _).dr)) HB.out).mono ?_; rintro e w7 ⟨g7, U7, rfl, ho7, hb7⟩; have hb7' := below_drew hb7; have q0 := keepc hb7' k0; have q1 := keepc hb7' k1; have q2 := keepc hb7' m0; have q3 := keepc hb7' m1))
      | ((go_at_call 63; refine (c_laws_eqRoutine X h _ _ _ ((ho6.rd hl1).below hb7') (ho7.rd hl1)).mono ?_; rintro e w8 ⟨rfl, hb8⟩; have hb8' := hb7'.tr hb8; have q0 := keepc hb8' k0; have q1 := keepc hb8' k1; have q2 := keepc hb8' m0; have q3 := keepc hb8' m1)))
  have B8 := B6.tr hb8'
  go_wp2
  go_ret
  exact ⟨rfl, B8⟩
theorem walk_big (X : List Part2) (h bt : Int) (a1 : Option Addr) (cap1 : Nat) (w : World) (hr : RdP w (.slice a1 X.length cap1) X) (hx : ¬ X.length + sumP X ≤ 1048576) :
    Calls Try.prog 9 #[.agg #[.int .i64 h, .slice a1 X.length cap1], .int .i64 bt] w fun e w' => e = .returned (.bool true) ∧ Below w.heap.size w w' := by
  obtain ⟨W0, hW0, k0, k1, B0⟩ := routOf w 77 h (.slice a1 X.length cap1)
  have HSZ : Hid (szLeftG 1048576 ((X.length + sumP X : Nat) : Int) = -1) := if_pos (by omega)
  go_enter Try.func9, Try.ntmps9
  go_wp2_with fail
  rw [← hW0]
  clear hW0
  refine (c_laws_szRoutine X 1048576 h _ _ (hr.below B0) (by omega)).mono ?_; rintro e w1 ⟨rfl, hb1⟩
  rw [HSZ.out]
  have B1 := B0.tr hb1
  go_wp2
  go_ret
  exact ⟨rfl, B1⟩
theorem walk (v0 v1 : Value) (w : World) (p0 : Arg_Routine w v0) (p1 : Arg_int64 w v1) : Calls Try.prog 9 #[v0, v1] w fun e w' => e = .returned (.bool true) ∧ Below w.heap.size w w' := by
  obtain ⟨u1, X, h, rfl, hr⟩ := p0
  obtain ⟨bt, rfl, -, -⟩ := p1
  have hr' := hr
  obtain ⟨a1, cap1, rfl, -, -⟩ := hr'
  by_cases hx : X.length + sumP X ≤ 1048576
  · exact walk_small X h bt a1 cap1 w hr hx
  · exact walk_big X h bt a1 cap1 w hr hx
theorem own : ownKnob Try.prog.godebug = none := by kernel_rfl
theorem laidOut : laidOutB Try.prog = true := by kernel_rfl
set_option maxRecDepth 100000 in
theorem lifted (os : Os) (started : os.Started) (H : Type) (enc : TypeId × Value → H) :
    ReturnsInHanded {} Try.checked os 9 .any (Rows.fnExactPartAtSpec.pre6 enc Try.prog Try.f9 Rows.fnExactPartAtRow.domain false) (Rows.fnExactPartAtSpec.post enc Try.prog Try.f9 false true false false) := by
  refine returnsInHanded_of_change (C := Try.checked) own started (by kernel_rfl) Try.func9
    (ChangeSpec.witness6 (enc := enc) (C := Try.checked) false ⟨#[], #[.agg #[.int .i64 0, .slice none 0 0], .int .i64 0], []⟩ 8 (by kernel_rfl) (by kernel_rfl) (by kernel_rfl) (by kernel_rfl)) ?_
  intro W base args ds gs before hval0 hW hcnd _
  have hval : ∀ (j : Nat) t v, Try.f9.params[j]? = some t → args[j]? = some v → Value.okWide Try.prog W .any base t v := hval0
  have hW' := hW
  obtain ⟨p, q, hA0, hV, rfl, hfz, hnd⟩ := hW
  have hA : DataW.TrodAll enc Try.prog W 0 (fun _ => true) true Try.f9.params.toList args.toList ds p := hA0
  rw [Try.params9] at hA hval
  obtain ⟨v0, vs0, d0, ds0, p0, q0, hargs, rfl, rfl, h0, r0⟩ := trodAll_cons hA
  obtain ⟨v1, vs1, d1, ds1, p1, q1, rfl, rfl, rfl, h1, r1⟩ := trodAll_cons r0
  obtain ⟨rfl, rfl, rfl⟩ := trodAll_nil r1
  obtain rfl : args = #[v0, v1] := by cases args; simp_all
  obtain ⟨rfl, rfl⟩ := trodVars_none hV
  have k0 := h0
  have lt0 : ∀ x ∈ p0, x.block < W.heap.size := by obtain ⟨m, hm⟩ := k0; exact DataW.trod_lt m _ _ _ hm
  have a0 := open_Routine (hval 0 77 v0 rfl rfl) h0
  have k1 := h1
  have lt1 : ∀ x ∈ p1, x.block < W.heap.size := by obtain ⟨m, hm⟩ := k1; exact DataW.trod_lt m _ _ _ hm
  have a1 := open_int64 (hval 1 2 v1 rfl rfl) h1
  clear hA0 hval0
  refine (walk v0 v1 W a0 a1).mono fun e W' ⟨he, bel⟩ => ?_
  subst he
  exact ⟨_, rfl, _, _, _, [], _, [], hW', trodAll_mk1 (shut_bool Try.underlying4 _), (trodAll_cons_mk (Below.trod laidOut (by kernel_rfl) (of_decide_eq_true (by kernel_rfl)) k0 bel lt0) (trodAll_cons_mk (Below.trod laidOut (by kernel_rfl) (of_decide_eq_true (by kernel_rfl)) k1 bel lt1) trodAll_mk0)), rfl, bel.frame _, fun h => by cases h⟩
theorem over : Rows.fnExactPartAtRow.holds Try.pinned (OpenSpec.ofChange Rows.fnExactPartAtSpec) :=
  OpenClaim.holds_of_wide 9 Try.f9 rfl rfl rfl rfl rfl rfl rfl ⟨rfl, rfl, rfl, rfl, rfl⟩ rfl rfl rfl rfl rfl (by kernel_rfl) Try.func9 (by kernel_rfl)
    (of_decide_eq_true (by kernel_rfl)) (by unfold Func.isWrapper; first | (rw [if_pos (by decide +kernel)]; kernel_rfl) | (rw [if_neg (by decide +kernel)]; exact ⟨rfl, rfl⟩))
    (fun os started H enc _ => lifted os started H enc)
theorem proved : Rows.FnExactPartAtSaid := over
end fnExactPartAt
end Go.Proofs.Ytecdmnncfloagaa
