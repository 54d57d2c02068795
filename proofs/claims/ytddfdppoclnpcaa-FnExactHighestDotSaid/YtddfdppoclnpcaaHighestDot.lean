/- The law FnExactHighestDot returns true for all arguments. No condition.  -/
import Derived.Test.YtddfdppoclnpcaaFrN
import Derived.Test.YtddfdppoclnpcaaFrames
import Derived.Test.YtddfdppoclnpcaaDesk
import Derived.Deep.RegionHeld3
namespace Go.Proofs.Ytddfdppoclnpcaa.fnExactHighestDot
open Go.ChangeShapes Go.WideShapes Go.ChangeAt Go.RowKit
set_option linter.unusedVariables false
/-- five cells that may be written -/
def Box5 (w : World) (g : Nat) : Prop := ∀ i, i < 5 → w.cell? ⟨g, i, none⟩ = some (.int .i64 0) ∧ w.frozen? ⟨g, i, none⟩ = false
theorem Box5.below {a b : World} {g : Nat} (h : Box5 a g) (hb : Below a.heap.size a b) : Box5 b g := fun i hi => ⟨keepc hb (h i hi).1, frozenc hb (h i hi).1 (h i hi).2⟩
theorem box5_new (w : World) : Box5 (w.alloc (Obj.cells #[Value.int IntKind.i64 0, Value.int IntKind.i64 0, Value.int IntKind.i64 0, Value.int IntKind.i64 0, Value.int IntKind.i64 0] 51)) w.heap.size := fun i hi => by
  have : i = 0 ∨ i = 1 ∨ i = 2 ∨ i = 3 ∨ i = 4 := by omega
  rcases this with rfl | rfl | rfl | rfl | rfl <;> exact ⟨World.cell?_alloc_at _ _ _ _ rfl, World.frozen?_alloc_at _ _ _ _ rfl⟩
theorem box5_drew {w w2 : World} (hb : Below (w.alloc (Obj.cells #[Value.int IntKind.i64 0, Value.int IntKind.i64 0, Value.int IntKind.i64 0, Value.int IntKind.i64 0, Value.int IntKind.i64 0] 51)).drew.heap.size (w.alloc (Obj.cells #[Value.int IntKind.i64 0, Value.int IntKind.i64 0, Value.int IntKind.i64 0, Value.int IntKind.i64 0, Value.int IntKind.i64 0] 51)).drew w2) : Box5 w2 w.heap.size := Box5.below (b := w2) (box5_new w) (below_drew hb)
theorem box5_plain {w w2 : World} (hb : Below (w.alloc (Obj.cells #[Value.int IntKind.i64 0, Value.int IntKind.i64 0, Value.int IntKind.i64 0, Value.int IntKind.i64 0, Value.int IntKind.i64 0] 51)).heap.size (w.alloc (Obj.cells #[Value.int IntKind.i64 0, Value.int IntKind.i64 0, Value.int IntKind.i64 0, Value.int IntKind.i64 0, Value.int IntKind.i64 0] 51)) w2) : Box5 w2 w.heap.size := (box5_new w).below hb
set_option maxHeartbeats 8000000 in
set_option maxRecDepth 100000 in
theorem walk_small (p : List Int) (B D x t : Int) (a1 : Option Addr) (cap1 : Nat) (w : World) (hr : RdI w (.slice a1 p.length cap1) p) (hn : p.length ≤ 1048576) :
    Calls Try.prog 6 #[.slice a1 p.length cap1, .agg #[.int .i64 B, .int .i64 D], .int .i64 x, .int .i64 t] w fun e w' => e = .returned (.bool true) ∧ Below w.heap.size w w' := by
  obtain ⟨W0, hW0, k0, k1, B0⟩ := oneState w 47 B D
  have HR : Hid (RdI W0 (.slice a1 p.length cap1) p) := Lib.hid (hr.below B0)
  obtain ⟨⟨d1, d2, d3, d4, d5⟩, HD⟩ : ∃ y, Hid (hiOfP p B D x t = y) := ⟨_, Lib.hid rfl⟩
  obtain ⟨C, HC⟩ : ∃ C, Hid (hiOfC p B D x t = C) := ⟨_, Lib.hid rfl⟩
  have HS : Hid (∀ (u : Value) (w7 : World), RdI w7 u p → Calls Try.prog 32 #[u, .agg #[.int .i64 B, .int .i64 D], .int .i64 x, .int .i64 t] w7 fun e w' => e = .returned (.tuple #[.agg #[.int .i64 d1, .int .i64 d2, .int .i64 d3, .int .i64 d4, .int .i64 d5], .int .i64 C]) ∧ Below w7.heap.size w7 w') := fun u w7 h7 => by
    have h := c_spec_HighestDot p B D x t u w7 h7
    rw [HD.out, HC.out] at h
    exact h
  have HI : Hid (∀ (u : Value) (w7 : World), RdI w7 u p → Calls Try.prog 33 #[u, .agg #[.int .i64 B, .int .i64 D], .int .i64 x, .int .i64 t] w7 fun e w' => e = .returned (.tuple #[.agg #[.int .i64 d1, .int .i64 d2, .int .i64 d3, .int .i64 d4, .int .i64 d5], .int .i64 C]) ∧ Below w7.heap.size w7 w') := fun u w7 h7 => by
    have h := c_impl_HighestDot p B D x t u w7 h7
    rw [HD.out, HC.out] at h
    exact h
  have tc : (C != C) = false := by simp
  have hz0 : w.heap.size < W0.heap.size := World.block_lt_of_cell? _ _ k0
  have HRW := Lib.hid hr
  clear hr
  go_enter Try.func6, Try.ntmps6
  go_wp2_with fail
  rw [← hW0]
  clear hW0
  have hRa : RdI W0.drew (.slice a1 p.length cap1) p := HR.out
  have hRb : RdI (W0.alloc (Obj.cells #[Value.int IntKind.i64 0, Value.int IntKind.i64 0, Value.int IntKind.i64 0, Value.int IntKind.i64 0, Value.int IntKind.i64 0] 51)).drew (.slice a1 p.length cap1) p := HR.out.below (((Below.refl _ _).al _).dr)
  have ne1 : ¬ W0.heap.size = w.heap.size := by omega
  have ne2 : ¬ w.heap.size = W0.heap.size := by omega
  go_region_held3 (fun w' => w'.cell? ⟨w.heap.size, 0, none⟩ = some (.int .i64 B) ∧ w'.cell? ⟨w.heap.size, 1, none⟩ = some (.int .i64 D))
    (go_keep)
    (first
      | ((go_at_call 12; refine (c_laws_toInt64S p _ _ (by first | exact hRa | exact hRb) hn).mono ?_; rintro e w2 ⟨rfl, ho2, hb2⟩; (first | (have hb2' := below_new hb2; have X2 := box5_drew hb2) | (have hb2' := below_drew hb2)); have j0 := keepc hb2' k0; have j1 := keepc hb2' k1; have hr2 := ho2.rd; (try rw [show (W0.alloc (Obj.cells #[Value.int IntKind.i64 0, Value.int IntKind.i64 0, Value.int IntKind.i64 0, Value.int IntKind.i64 0, Value.int IntKind.i64 0] 51)).drew.heap.size = W0.heap.size + 1 from World.size_alloc _ _] at hr2); have hz2 : W0.heap.size ≤ w2.heap.size := hb2'.size; have ne3 : ¬ w2.heap.size = w.heap.size := (by omega); have ne4 : ¬ w.heap.size = w2.heap.size := (by omega)))
      | ((go_at_call 29; refine (c_laws_toTiming B D _).mono ?_; rintro e w3 ⟨rfl, hb3⟩; (first | (have hb3' : Below w2.heap.size w2 w3 := hb3; (try have X3 := X2.below hb3')) | (have X3 := box5_plain hb3; have hb3' : Below w2.heap.size w2 w3 := ((Below.refl _ _).al _).tr hb3)); have l0 := keepc hb3' j0; have l1 := keepc hb3' j1; have hr3 := hr2.below hb3'; have hz3 : w2.heap.size ≤ w3.heap.size := hb3'.size; have ne5 : ¬ w3.heap.size = w.heap.size := (by omega); have ne6 : ¬ w.heap.size = w3.heap.size := (by omega)))
      | ((go_at_call 32; refine (HS.out _ _ (by first | exact hr3 | exact hr3.below ((Below.refl _ _).al _))).mono ?_; rintro e w4 ⟨rfl, hb4⟩; (first | (have hb4' : Below w3.heap.size w3 w4 := hb4; (try have X4 := X3.below hb4')) | (have X4 := box5_plain hb4; have hb4' : Below w3.heap.size w3 w4 := ((Below.refl _ _).al _).tr hb4)); have m0 := keepc hb4' l0; have m1 := keepc hb4' l1; have hz4 : w3.heap.size ≤ w4.heap.size := hb4'.size; have ne7 : ¬ w4.heap.size = w.heap.size := (by omega); have ne8 : ¬ w.heap.size = w4.heap.size := (by omega); (try (have x0 := (X4 0 (by omega)).1; have x1 := (X4 1 (by omega)).1; have x2 := (X4 2 (by omega)).1; have x3 := (X4 3 (by omega)).1; have x4 := (X4 4 (by omega)).1; have y0 := (X4 0 (by omega)).2; have y1 := (X4 1 (by omega)).2; have y2 := (X4 2 (by omega)).2; have y3 := (X4 3 (by omega)).2; have y4 := (X4 4 (by omega)).2)))))
  all_goals (
     have B4 : Below w.heap.size w w4 := ((B0.tr hb2').tr hb3').tr hb4'
     have hw24 := B0.size
     first
     | (
       obtain ⟨W9, hW9⟩ : ∃ W9, W9 = w4.alloc (Obj.cells #[.int .i64 d1, .int .i64 d2, .int .i64 d3, .int .i64 d4, .int .i64 d5] 51) := ⟨_, rfl⟩
       have c0 : W9.cell? ⟨w4.heap.size, 0, none⟩ = some (.int .i64 d1) := by rw [hW9]; exact World.cell?_alloc_at _ _ _ _ rfl
       have c1 : W9.cell? ⟨w4.heap.size, 1, none⟩ = some (.int .i64 d2) := by rw [hW9]; exact World.cell?_alloc_at _ _ _ _ rfl
       have c2 : W9.cell? ⟨w4.heap.size, 2, none⟩ = some (.int .i64 d3) := by rw [hW9]; exact World.cell?_alloc_at _ _ _ _ rfl
       have c3 : W9.cell? ⟨w4.heap.size, 3, none⟩ = some (.int .i64 d4) := by rw [hW9]; exact World.cell?_alloc_at _ _ _ _ rfl
       have c4 : W9.cell? ⟨w4.heap.size, 4, none⟩ = some (.int .i64 d5) := by rw [hW9]; exact World.cell?_alloc_at _ _ _ _ rfl
       have B9 : Below w.heap.size w W9 := by rw [hW9]; exact B4.al _
       have n0 : W9.cell? ⟨w.heap.size, 0, none⟩ = some (.int .i64 B) := by rw [hW9]; exact al_c _ m0
       have n1 : W9.cell? ⟨w.heap.size, 1, none⟩ = some (.int .i64 D) := by rw [hW9]; exact al_c _ m1
       have hgn : ¬ w4.heap.size = w.heap.size := by omega
       rw [← hW9]
       clear hW9
       obtain ⟨G, hG⟩ : ∃ G, w4.heap.size = G := ⟨_, rfl⟩
       rw [hG] at c0 c1 c2 c3 c4 hgn ⊢)
     | (
       obtain ⟨W9, hW9, c0, c1, c2, c3, c4, -, -⟩ := set5 w4 w3.heap.size (.int .i64 d1) (.int .i64 d2) (.int .i64 d3) (.int .i64 d4) (.int .i64 d5) _ _ _ _ _ x0 x1 x2 x3 x4
       have B9 := (((((B4.setCell (p := ⟨w3.heap.size, 0, none⟩) (show w.heap.size ≤ w3.heap.size by omega) (.int .i64 d1)).setCell (p := ⟨w3.heap.size, 1, none⟩) (show w.heap.size ≤ w3.heap.size by omega) (.int .i64 d2)).setCell (p := ⟨w3.heap.size, 2, none⟩) (show w.heap.size ≤ w3.heap.size by omega) (.int .i64 d3)).setCell (p := ⟨w3.heap.size, 3, none⟩) (show w.heap.size ≤ w3.heap.size by omega) (.int .i64 d4)).setCell (p := ⟨w3.heap.size, 4, none⟩) (show w.heap.size ≤ w3.heap.size by omega) (.int .i64 d5))
       rw [← hW9] at B9
       have n0 : W9.cell? ⟨w.heap.size, 0, none⟩ = some (.int .i64 B) := by rw [hW9]; exact cell_setF (by omega) (cell_setF (by omega) (cell_setF (by omega) (cell_setF (by omega) (cell_setF (by omega) m0))))
       have n1 : W9.cell? ⟨w.heap.size, 1, none⟩ = some (.int .i64 D) := by rw [hW9]; exact cell_setF (by omega) (cell_setF (by omega) (cell_setF (by omega) (cell_setF (by omega) (cell_setF (by omega) m1))))
       have hgn : ¬ w3.heap.size = w.heap.size := by omega
       rw [← hW9]
       clear hW9 x0 x1 x2 x3 x4
       obtain ⟨G, hG⟩ : ∃ G, w3.heap.size = G := ⟨_, rfl⟩
       rw [hG] at c0 c1 c2 c3 c4 hgn ⊢)
     | (
       obtain ⟨W9, hW9, c0, c1, c2, c3, c4, -, -⟩ := set5 w4 w2.heap.size (.int .i64 d1) (.int .i64 d2) (.int .i64 d3) (.int .i64 d4) (.int .i64 d5) _ _ _ _ _ x0 x1 x2 x3 x4
       have B9 := (((((B4.setCell (p := ⟨w2.heap.size, 0, none⟩) (show w.heap.size ≤ w2.heap.size by omega) (.int .i64 d1)).setCell (p := ⟨w2.heap.size, 1, none⟩) (show w.heap.size ≤ w2.heap.size by omega) (.int .i64 d2)).setCell (p := ⟨w2.heap.size, 2, none⟩) (show w.heap.size ≤ w2.heap.size by omega) (.int .i64 d3)).setCell (p := ⟨w2.heap.size, 3, none⟩) (show w.heap.size ≤ w2.heap.size by omega) (.int .i64 d4)).setCell (p := ⟨w2.heap.size, 4, none⟩) (show w.heap.size ≤ w2.heap.size by omega) (.int .i64 d5))
       rw [← hW9] at B9
       have n0 : W9.cell? ⟨w.heap.size, 0, none⟩ = some (.int .i64 B) := by rw [hW9]; exact cell_setF (by omega) (cell_setF (by omega) (cell_setF (by omega) (cell_setF (by omega) (cell_setF (by omega) m0))))
       have n1 : W9.cell? ⟨w.heap.size, 1, none⟩ = some (.int .i64 D) := by rw [hW9]; exact cell_setF (by omega) (cell_setF (by omega) (cell_setF (by omega) (cell_setF (by omega) (cell_setF (by omega) m1))))
       have hgn : ¬ w2.heap.size = w.heap.size := by omega
       rw [← hW9]
       clear hW9 x0 x1 x2 x3 x4
       obtain ⟨G, hG⟩ : ∃ G, w2.heap.size = G := ⟨_, rfl⟩
       rw [hG] at c0 c1 c2 c3 c4 hgn ⊢)
     | (
       obtain ⟨W9, hW9, c0, c1, c2, c3, c4, -, -⟩ := set5 w4 W0.heap.size (.int .i64 d1) (.int .i64 d2) (.int .i64 d3) (.int .i64 d4) (.int .i64 d5) _ _ _ _ _ x0 x1 x2 x3 x4
       have B9 := (((((B4.setCell (p := ⟨W0.heap.size, 0, none⟩) (show w.heap.size ≤ W0.heap.size by omega) (.int .i64 d1)).setCell (p := ⟨W0.heap.size, 1, none⟩) (show w.heap.size ≤ W0.heap.size by omega) (.int .i64 d2)).setCell (p := ⟨W0.heap.size, 2, none⟩) (show w.heap.size ≤ W0.heap.size by omega) (.int .i64 d3)).setCell (p := ⟨W0.heap.size, 3, none⟩) (show w.heap.size ≤ W0.heap.size by omega) (.int .i64 d4)).setCell (p := ⟨W0.heap.size, 4, none⟩) (show w.heap.size ≤ W0.heap.size by omega) (.int .i64 d5))
       rw [← hW9] at B9
       have n0 : W9.cell? ⟨w.heap.size, 0, none⟩ = some (.int .i64 B) := by rw [hW9]; exact cell_setF (by omega) (cell_setF (by omega) (cell_setF (by omega) (cell_setF (by omega) (cell_setF (by omega) m0))))
       have n1 : W9.cell? ⟨w.heap.size, 1, none⟩ = some (.int .i64 D) := by rw [hW9]; exact cell_setF (by omega) (cell_setF (by omega) (cell_setF (by omega) (cell_setF (by omega) (cell_setF (by omega) m1))))
       have hgn : ¬ W0.heap.size = w.heap.size := by omega
       rw [← hW9]
       clear hW9 x0 x1 x2 x3 x4
       obtain ⟨G, hG⟩ : ∃ G, W0.heap.size = G := ⟨_, rfl⟩
       rw [hG] at c0 c1 c2 c3 c4 hgn ⊢))
  all_goals (
      go_wp2_with fail
      refine (c_laws_toInt64S p _ _ (HRW.out.below B9) hn).mono ?_; rintro e w10 ⟨rfl, ho10, hb10⟩
      have n0 := keepc hb10 n0
      have n1 := keepc hb10 n1
      have c0 := keepc hb10 c0
      have c1 := keepc hb10 c1
      have c2 := keepc hb10 c2
      have c3 := keepc hb10 c3
      have c4 := keepc hb10 c4
      go_wp2_with fail
      refine (c_laws_toTiming B D _).mono ?_; rintro e w11 ⟨rfl, hb11⟩
      have c0 := keepc hb11 c0
      have c1 := keepc hb11 c1
      have c2 := keepc hb11 c2
      have c3 := keepc hb11 c3
      have c4 := keepc hb11 c4
      go_wp2_with fail
      refine (HI.out _ _ (ho10.rd.below hb11)).mono ?_; rintro e w12 ⟨rfl, hb12⟩
      have c0 := keepc hb12 c0
      have c1 := keepc hb12 c1
      have c2 := keepc hb12 c2
      have c3 := keepc hb12 c3
      have c4 := keepc hb12 c4
      have hgz : G < w12.heap.size := World.block_lt_of_cell? _ _ c0
      have hg1 : ¬ w12.heap.size = G := by omega
      have hg2 : ¬ G = w12.heap.size := by omega
      have B12 := ((B9.tr hb10).tr hb11).tr hb12
      go_wp2_with fail
      refine (c_laws_eqDot d1 d2 d3 d4 d5 _).mono ?_; rintro e w13 ⟨rfl, hb13⟩
      have B13 := (B12.al _).tr hb13
      have r13 := (((ho10.rd.below hb11).below hb12).below ((Below.refl _ _).al _)).below hb13
      go_wp2_with fail
      refine (c_laws_toInt64S p _ _ (HRW.out.below B13) hn).mono ?_; rintro e w14 ⟨rfl, ho14, hb14⟩
      have r14 := r13.below hb14
      go_wp2_with fail
      refine (c_laws_eqInt64S p p _ _ _ r14 ho14.rd).mono ?_; rintro e w15 ⟨rfl, hb15⟩
      have tpp : decide (p = p) = true := by simp
      rw [tpp]
      go_wp2
      go_ret
      exact ⟨rfl, (B13.tr hb14).tr hb15⟩
    )
theorem walk_big (p : List Int) (B D x t : Int) (a1 : Option Addr) (cap1 : Nat) (w : World) (hl : (p.length : Int) ≤ 9223372036854775807) (hn : ¬ p.length ≤ 1048576) :
    Calls Try.prog 6 #[.slice a1 p.length cap1, .agg #[.int .i64 B, .int .i64 D], .int .i64 x, .int .i64 t] w fun e w' => e = .returned (.bool true) ∧ Below w.heap.size w w' := by
  go_enter Try.func6, Try.ntmps6
  go_wp2
  go_ret
  exact ⟨rfl, by (repeat (first | (with_reducible assumption) | (with_reducible exact Below.refl _ _) | (with_reducible refine Below.setCell ?_ (by first | (simp; done) | (simp; omega)) _) | (with_reducible refine Below.al ?_ _) | (with_reducible refine Below.dr ?_) | (with_reducible refine Below.drN ?_ _) | (with_reducible refine Below.tr ?_ (by with_reducible assumption))))⟩
theorem walk (v0 v1 v2 v3 : Value) (w : World) (p0 : Arg_ints w v0) (p1 : Arg_Timing w v1) (p2 : Arg_int64 w v2) (p3 : Arg_int64 w v3) : Calls Try.prog 6 #[v0, v1, v2, v3] w fun e w' => e = .returned (.bool true) ∧ Below w.heap.size w w' := by
  obtain ⟨p, hp⟩ := p0
  obtain ⟨B, D, rfl⟩ := p1
  obtain ⟨x, rfl, -⟩ := p2
  obtain ⟨t, rfl, -⟩ := p3
  have hp' := hp
  obtain ⟨a1, cap1, rfl, hl1, _⟩ := hp'
  by_cases hn : p.length ≤ 1048576
  · exact walk_small p B D x t a1 cap1 w hp hn
  · exact walk_big p B D x t a1 cap1 w (by omega) hn
theorem own : ownKnob Try.prog.godebug = none := by kernel_rfl
theorem laidOut : laidOutB Try.prog = true := by kernel_rfl
set_option maxRecDepth 100000 in
theorem lifted (os : Os) (started : os.Started) (H : Type) (enc : TypeId × Value → H) :
    ReturnsInHanded {} Try.checked os 6 .any (Rows.fnExactHighestDotSpec.pre6 enc Try.prog Try.f6 Rows.fnExactHighestDotRow.domain false) (Rows.fnExactHighestDotSpec.post enc Try.prog Try.f6 false true false false) := by
  refine returnsInHanded_of_change (C := Try.checked) own started (by kernel_rfl) Try.func6
    (ChangeSpec.witness6 (enc := enc) (C := Try.checked) false ⟨#[], #[.slice none 0 0, .agg #[.int .i64 0, .int .i64 0], .int .i64 0, .int .i64 0], []⟩ 8 (by kernel_rfl) (by kernel_rfl) (by kernel_rfl) (by kernel_rfl)) ?_
  intro W base args ds gs before hval0 hW hcnd _
  have hval : ∀ (j : Nat) t v, Try.f6.params[j]? = some t → args[j]? = some v → Value.okWide Try.prog W .any base t v := hval0
  have hW' := hW
  obtain ⟨p, q, hA0, hV, rfl, hfz, hnd⟩ := hW
  have hA : DataW.TrodAll enc Try.prog W 0 (fun _ => true) true Try.f6.params.toList args.toList ds p := hA0
  rw [Try.params6] at hA hval
  obtain ⟨v0, vs0, d0, ds0, p0, q0, hargs, rfl, rfl, h0, r0⟩ := trodAll_cons hA
  obtain ⟨v1, vs1, d1, ds1, p1, q1, rfl, rfl, rfl, h1, r1⟩ := trodAll_cons r0
  obtain ⟨v2, vs2, d2, ds2, p2, q2, rfl, rfl, rfl, h2, r2⟩ := trodAll_cons r1
  obtain ⟨v3, vs3, d3, ds3, p3, q3, rfl, rfl, rfl, h3, r3⟩ := trodAll_cons r2
  obtain ⟨rfl, rfl, rfl⟩ := trodAll_nil r3
  obtain rfl : args = #[v0, v1, v2, v3] := by cases args; simp_all
  obtain ⟨rfl, rfl⟩ := trodVars_none hV
  have k0 := h0
  have lt0 : ∀ x ∈ p0, x.block < W.heap.size := by obtain ⟨m, hm⟩ := k0; exact DataW.trod_lt m _ _ _ hm
  have a0 := open_intsArg (hval 0 24 v0 rfl rfl) h0
  have k1 := h1
  have lt1 : ∀ x ∈ p1, x.block < W.heap.size := by obtain ⟨m, hm⟩ := k1; exact DataW.trod_lt m _ _ _ hm
  have a1 := open_Timing (hval 1 47 v1 rfl rfl) h1
  have k2 := h2
  have lt2 : ∀ x ∈ p2, x.block < W.heap.size := by obtain ⟨m, hm⟩ := k2; exact DataW.trod_lt m _ _ _ hm
  have a2 := open_int64 (hval 2 2 v2 rfl rfl) h2
  have k3 := h3
  have lt3 : ∀ x ∈ p3, x.block < W.heap.size := by obtain ⟨m, hm⟩ := k3; exact DataW.trod_lt m _ _ _ hm
  have a3 := open_int64 (hval 3 2 v3 rfl rfl) h3
  clear hA0 hval0
  refine (walk v0 v1 v2 v3 W a0 a1 a2 a3).mono fun e W' ⟨he, bel⟩ => ?_
  subst he
  exact ⟨_, rfl, _, _, _, [], _, [], hW', trodAll_mk1 (shut_bool Try.underlying4 _), (trodAll_cons_mk (Below.trod laidOut (by kernel_rfl) (of_decide_eq_true (by kernel_rfl)) k0 bel lt0) (trodAll_cons_mk (Below.trod laidOut (by kernel_rfl) (of_decide_eq_true (by kernel_rfl)) k1 bel lt1) (trodAll_cons_mk (Below.trod laidOut (by kernel_rfl) (of_decide_eq_true (by kernel_rfl)) k2 bel lt2) (trodAll_cons_mk (Below.trod laidOut (by kernel_rfl) (of_decide_eq_true (by kernel_rfl)) k3 bel lt3) trodAll_mk0)))), rfl, bel.frame _, fun h => by cases h⟩
theorem over : Rows.fnExactHighestDotRow.holds Try.pinned (OpenSpec.ofChange Rows.fnExactHighestDotSpec) :=
  OpenClaim.holds_of_wide 6 Try.f6 rfl rfl rfl rfl rfl rfl rfl ⟨rfl, rfl, rfl, rfl, rfl⟩ rfl rfl rfl rfl rfl (by kernel_rfl) Try.func6 (by kernel_rfl)
    (of_decide_eq_true (by kernel_rfl)) (by unfold Func.isWrapper; first | (rw [if_pos (by decide +kernel)]; kernel_rfl) | (rw [if_neg (by decide +kernel)]; exact ⟨rfl, rfl⟩))
    (fun os started H enc _ => lifted os started H enc)
theorem proved : Rows.FnExactHighestDotSaid := over
end Go.Proofs.Ytddfdppoclnpcaa.fnExactHighestDot
