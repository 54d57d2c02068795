/- The law LinesX: what it rests on, part 18 of 46. -/
import Derived.Test.YtioemkdapoombaaGreatDoorQLinesX16
import Derived.Test.YtioemkdapoombaaGreatDoorQLinesX17
namespace Go.Proofs.YtioemkdapoombaaGreatDoor
open Go.ChangeShapes Go.WideShapes Go.ChangeAt Go.RowKit
set_option linter.unusedSimpArgs false
set_option linter.unusedVariables false
def rowQ (p : Value × Int) : List Value := [p.1, .int .i64 p.2]
theorem rowQ_len (p : Value × Int) : (rowQ p).length = 2 := rfl
def qZ : Value × Int := (undef, 0)
def pZ : Part2 := ([], 0)
theorem rdI_updV {lo hi : Nat} {w w' : World} {v : Value} {p : List Int} (h : RdI w v p) (u : Upd lo hi w w') (hf : ∀ k, v.ownBlock = some k → k < lo ∨ hi ≤ k) : RdI w' v p := by
  obtain ⟨a, cap, he, hl, hc⟩ := h
  refine ⟨a, cap, he, hl, fun j hj => ?_⟩
  obtain ⟨bl, off, ha, hcell⟩ := hc j hj
  exact ⟨bl, off, ha, (u.cell bl (off + j) (hf bl (by rw [he, ha]; rfl)) (World.block_lt_of_cell? _ _ hcell)).trans hcell⟩
/-- parts in a row of the call's own, their patterns in other blocks from lo up to hi -/
def DrwP (lo hi : Nat) (w : World) (v : Value) (X : List Part2) : Prop :=
  ∃ Y : List (Value × Int), Y.length = X.length ∧ OwnRow 70 2 rowQ lo hi w v Y ∧ ∀ i, i < X.length → (Y.getD i qZ).2 = (X.getD i pZ).2 ∧ RdI w (Y.getD i qZ).1 (X.getD i pZ).1 ∧ ∀ b, (Y.getD i qZ).1.ownBlock = some b → (lo ≤ b ∧ b < hi) ∧ v.ownBlock ≠ some b
section
variable {lo hi lo' hi' : Nat} {w w' : World} {v : Value} {X : List Part2}
theorem DrwP.upd (h : DrwP lo hi w v X) (u : Upd lo' hi' w w') (hd : hi ≤ lo' ∨ hi' ≤ lo) : DrwP lo hi w' v X := by
  obtain ⟨Y, h1, h2, h3⟩ := h
  exact ⟨Y, h1, h2.upd u hd, fun i hi => by
    obtain ⟨k1, k2, k3⟩ := h3 i hi
    exact ⟨k1, rdI_updV k2 u (fun b e => by have := (k3 b e).1; omega), k3⟩⟩
theorem DrwP.below (h : DrwP lo hi w v X) (hb : Below w.heap.size w w') : DrwP lo hi w' v X := by
  obtain ⟨Y, h1, h2, h3⟩ := h
  exact ⟨Y, h1, h2.below hb, fun i hi => by
    obtain ⟨k1, k2, k3⟩ := h3 i hi
    exact ⟨k1, k2.below hb, k3⟩⟩
theorem DrwP.wide (h : DrwP lo hi w v X) (h1 : lo' ≤ lo) (h2 : hi ≤ hi') : DrwP lo' hi' w v X := by
  obtain ⟨Y, k1, k2, k3⟩ := h
  exact ⟨Y, k1, k2.wide h1 h2, fun i hi => by
    obtain ⟨j1, j2, j3⟩ := k3 i hi
    exact ⟨j1, j2, fun b e => by have := j3 b e; exact ⟨by omega, this.2⟩⟩⟩
theorem DrwP.nil (lo hi : Nat) (w : World) : DrwP lo hi w (.slice none 0 0) [] := ⟨[], rfl, OwnRow.nil _ rfl, fun i hi => by simp at hi⟩
theorem DrwP.lt (h : DrwP lo hi w v X) : ∀ b, v.ownBlock = some b → lo ≤ b ∧ b < hi := fun b e => by
  obtain ⟨Y, h1, h2, h3⟩ := h
  exact ⟨(World.ownsRow.lt h2.1 b e).1, h2.2 b e⟩
theorem DrwP.rd (h : DrwP lo hi w v X) : RdP w v X := by
  obtain ⟨Y, h1, h2, h3⟩ := h
  obtain ⟨a, cap, e, hl, hc⟩ := h2.rd rowQ_len
  rw [h1] at e hl
  refine ⟨a, cap, e, hl, fun k hk => ?_⟩
  have hkY : k < Y.length := by omega
  obtain ⟨b, off, ha, hx⟩ := hc k hkY
  obtain ⟨j1, j2, -⟩ := h3 k hk
  have eY : Y.getD k qZ = Y[k] := by simp [List.getD, hkY]
  have eX : X.getD k pZ = X[k] := by simp [List.getD, hk]
  rw [eY, eX] at j1 j2
  refine ⟨b, off, Y[k].1, ha, ?_, ?_, j2⟩
  · have h0 := hx 0 _ rfl
    rw [Nat.add_zero] at h0; exact h0
  · rw [← j1]; exact hx 1 _ rfl
end
theorem DrwP.snoc {lo hi : Nat} {w w1 w' : World} {v v' u : Value} {X : List Part2} {Y : List (Value × Int)} {xs : List Int} {t : Int} (h1 : Y.length = X.length)
    (h3 : ∀ i, i < X.length → (Y.getD i qZ).2 = (X.getD i pZ).2 ∧ RdI w (Y.getD i qZ).1 (X.getD i pZ).1 ∧ ∀ b, (Y.getD i qZ).1.ownBlock = some b → (lo ≤ b ∧ b < hi) ∧ v.ownBlock ≠ some b)
    (hlt : ∀ b, v.ownBlock = some b → b < hi) (ho : OwnRow 70 2 rowQ lo w'.heap.size w' v' (Y ++ [(u, t)])) (hw : Below w.heap.size w w1) (hg : w1.grownBy w' v.ownBlock)
    (hat : v'.ownBlock = v.ownBlock ∨ v'.ownBlock = some w1.heap.size) (hu : RdI w u xs) (hub : ∀ b, u.ownBlock = some b → hi ≤ b ∧ b < w.heap.size) (hhi : hi ≤ w.heap.size) (hlo : lo ≤ hi) :
    DrwP lo w'.heap.size w' v' (X ++ [(xs, t)]) := by
  have hs1 := hw.size
  have hs2 := hg.size
  refine ⟨Y ++ [(u, t)], by simp [h1], ho, fun i hi' => ?_⟩
  rw [List.length_append, List.length_singleton] at hi'
  by_cases hil : i < X.length
  · have eY : (Y ++ [(u, t)]).getD i qZ = Y.getD i qZ := by rw [List.getD_eq_getElem?_getD, List.getElem?_append_left (by omega), List.getD_eq_getElem?_getD]
    have eX : (X ++ [(xs, t)]).getD i pZ = X.getD i pZ := by rw [List.getD_eq_getElem?_getD, List.getElem?_append_left hil, List.getD_eq_getElem?_getD]
    rw [eY, eX]
    obtain ⟨k1, k2, k3⟩ := h3 i hil
    refine ⟨k1, ?_, fun b e => ?_⟩
    · obtain ⟨ad, cap, he, hl, hc⟩ := k2.below hw
      refine ⟨ad, cap, he, hl, fun j hj => ?_⟩
      obtain ⟨bl, off, ha, hcell⟩ := hc j hj
      exact ⟨bl, off, ha, grown_c hg hcell (fun e => (k3 bl (by rw [he, ha]; rfl)).2 e)⟩
    · obtain ⟨j1, j2⟩ := k3 b e
      refine ⟨by omega, fun e2 => ?_⟩
      rcases hat with h | h
      · exact j2 (by rw [← h]; exact e2)
      · rw [h] at e2
        simp only [Option.some.injEq] at e2
        omega
  · obtain rfl : i = X.length := by omega
    have eY : (Y ++ [(u, t)]).getD X.length qZ = (u, t) := by rw [← h1]; simp [List.getD]
    have eX : (X ++ [(xs, t)]).getD X.length pZ = (xs, t) := by simp [List.getD]
    rw [eY, eX]
    refine ⟨rfl, ?_, fun b e => ?_⟩
    · obtain ⟨ad, cap, he, hl, hc⟩ := hu.below hw
      refine ⟨ad, cap, he, hl, fun j hj => ?_⟩
      obtain ⟨bl, off, ha, hcell⟩ := hc j hj
      have hbb := hub bl (by rw [he, ha]; rfl)
      exact ⟨bl, off, ha, grown_c hg hcell (fun e => by have := hlt bl e; omega)⟩
    · have hbb := hub b e
      refine ⟨by omega, fun e2 => ?_⟩
      rcases hat with h | h
      · rw [h] at e2
        have := hlt b e2
        omega
      · rw [h] at e2
        simp only [Option.some.injEq] at e2
        omega
/-- a box of two values -/
structure VBox (w : World) (b : Nat) (x y : Value) : Prop where
  c0 : w.cell? ⟨b, 0, none⟩ = some x
  c1 : w.cell? ⟨b, 1, none⟩ = some y
  f0 : w.frozen? ⟨b, 0, none⟩ = false
  f1 : w.frozen? ⟨b, 1, none⟩ = false
theorem VBox.new (w : World) (T : TypeId) (x y : Value) : VBox (w.alloc (Obj.cells #[x, y] T)) w.heap.size x y :=
  ⟨World.cell?_alloc_at _ _ _ _ rfl, World.cell?_alloc_at _ _ _ _ rfl, by go_simp, by go_simp⟩
section
variable {w w' : World} {b lo hi : Nat} {x y : Value}
theorem VBox.lt (h : VBox w b x y) : b < w.heap.size := World.block_lt_of_cell? _ _ h.c0
theorem VBox.upd (h : VBox w b x y) (u : Upd lo hi w w') (hn : b < lo ∨ hi ≤ b) : VBox w' b x y :=
  ⟨(u.cell b 0 hn h.lt).trans h.c0, (u.cell b 1 hn h.lt).trans h.c1, (u.frozen b 0 hn h.lt).trans h.f0, (u.frozen b 1 hn h.lt).trans h.f1⟩
theorem VBox.below (h : VBox w b x y) (hb : Below w.heap.size w w') : VBox w' b x y := ⟨keepc hb h.c0, keepc hb h.c1, frozenc hb h.c0 h.f0, frozenc hb h.c1 h.f1⟩
theorem VBox.grown {r : Option Nat} (h : VBox w b x y) (hg : w.grownBy w' r) (hn : r ≠ some b) : VBox w' b x y :=
  ⟨grown_c hg h.c0 hn, grown_c hg h.c1 hn, grown_f hg h.c0 h.f0 hn, grown_f hg h.c1 h.f1 hn⟩
theorem VBox.set (h : VBox w b x y) (x' y' : Value) : VBox ((w.setCell ⟨b, 0, none⟩ x').setCell ⟨b, 1, none⟩ y') b x' y' ∧ w.grownBy ((w.setCell ⟨b, 0, none⟩ x').setCell ⟨b, 1, none⟩ y') (some b) := by
  obtain ⟨h1, h2, h3, h4⟩ := set2 w b x' y' _ _ h.c0 h.c1
  exact ⟨⟨h1, h2, by rw [h3]; exact h.f0, by rw [h3]; exact h.f1⟩, h4⟩
theorem VBox.set1 (h : VBox w b x y) (y' : Value) : VBox (w.setCell ⟨b, 1, none⟩ y') b x y' ∧ w.grownBy (w.setCell ⟨b, 1, none⟩ y') (some b) :=
  ⟨⟨(World.cell?_setCell_other _ _ _ _ (by intro e; cases e)).trans h.c0, World.cell?_setCell_same (v := y') w _ h.c1, by rw [World.frozen?_setCell]; exact h.f0, by rw [World.frozen?_setCell]; exact h.f1⟩, grownBy_setCells w b [y'] 1⟩
end
theorem updNew {g n : Nat} {a b c : World} (h : Upd g (g + 1) a b) (hg : b.grownBy c (some n)) (hn : a.heap.size ≤ n) : Upd g (g + 1) a c := updFresh' h hg (fun m e => by simp only [Option.some.injEq] at e; omega)
theorem infoQ : (Tryz.prog.info? 70).map (fun i => (i.zero, i.size, i.bytes)) = some (some (.agg #[.slice none 0 0, .int .i64 0]), 2, 32) := by kernel_rfl
set_option maxHeartbeats 8000000 in
set_option maxRecDepth 100000 in
theorem c_spec_l19Draw (W0 : World) (g k : Nat) (bs : List Int) (most : Int) (w : World) (h : Src W0 g bs k w) (hk : k < 500000) (hm : 1 ≤ most ∧ most ≤ 10) :
    Calls Tryz.prog 76 #[.pointer (some ⟨g, 0, none⟩), .int .i64 most] w fun e w' => ∃ (v : Value) (X : List Part2) (H : Int) (k' : Nat), e = .returned (.agg #[.int .i64 H, v]) ∧ DrwP w.heap.size w'.heap.size w' v X ∧ (1 ≤ X.length ∧ X.length ≤ 10) ∧ (∀ p ∈ X, p.1.length ≤ 12) ∧ k' ≤ k + 1000 ∧ Src W0 g bs k' w' ∧ Upd g (g + 1) w w' := by
  have hgw := h.lt
  have R0 := VBox.new w 34 (.int .i64 0) (.slice none 0 0)
  have hb0 : Below w.heap.size w (w.alloc (Obj.cells #[.int .i64 0, .slice none 0 0] 34)) := (Below.refl _ _).al _
  have S0 := h.below hb0
  have U0 : Upd g (g + 1) w (w.alloc (Obj.cells #[.int .i64 0, .slice none 0 0] 34)) := Upd.of_below hb0
  clear h hb0
  go_enter Tryz.func76, Tryz.ntmps76
  go_wp2_with fail
  generalize (w.alloc (Obj.cells #[.int .i64 0, .slice none 0 0] 34)) = w0 at *
  refine (c_spec_l00Src_pick W0 g k bs 3 _ S0 (by omega) (by omega)).mono ?_; rintro e w1 ⟨x, k1, rfl, hx0, hx1, -, hk1, S1, U1⟩
  have hx := hx1 (by omega)
  clear hx1
  obtain ⟨P, hP⟩ : ∃ P, 2 + x = P := ⟨_, rfl⟩
  have hPb : 0 ≤ P ∧ P ≤ 15 := by omega
  have hw0 : IntKind.i64.wrap (2 + x) = P := by rw [hP]; exact IntWalk.i64_in _ (by omega)
  have R1 := R0.upd U1 (by omega)
  have U1 := U0.trans U1
  clear R0 U0 S0
  go_wp2_with fail
  refine (c_spec_l00Src_pick W0 g k1 bs 2 _ S1 (by omega) (by omega)).mono ?_; rintro e w2 ⟨x2, k2, rfl, hy0, hy1, -, hk2, S2, U2⟩
  have hy := hy1 (by omega)
  clear hy1
  obtain ⟨H, hH⟩ : ∃ H, 8 + x2 = H := ⟨_, rfl⟩
  have hw2 : IntKind.i64.wrap (8 + x2) = H := by rw [hH]; exact IntWalk.i64_in _ (by omega)
  have R2 := R1.upd U2 (by omega)
  have U2 := U1.trans U2
  have T2 := VBox.new w2 34 (.int .i64 H) (.slice none 0 0)
  have hb3 : Below w2.heap.size w2 (w2.alloc (Obj.cells #[.int .i64 H, .slice none 0 0] 34)) := (Below.refl _ _).al _
  have S3 := S2.below hb3
  have U3 := U2.trans (Upd.of_below (lo := g) (hi := g + 1) hb3)
  have R3 := R2.below hb3
  have hRG := R2.lt
  clear R1 U1 S1 hP hH
  go_wp2_with fail
  clear hb3
  have hs3 := T2.lt
  generalize (w2.alloc (Obj.cells #[.int .i64 H, .slice none 0 0] 34)) = w3 at *
  generalize w2.heap.size = G at *
  clear S2 U2 R2
  refine (c_spec_l00Src_pick W0 g k2 bs most _ S3 (by omega) (by omega)).mono ?_; rintro e w4 ⟨x4, k4, rfl, hz0, hz1, -, hk4, S4, U4⟩
  have hz := hz1 (by omega)
  clear hz1
  obtain ⟨C, hC⟩ : ∃ C : Nat, 1 + x4 = (C : Int) := ⟨(1 + x4).toNat, by omega⟩
  have hCb : 1 ≤ C ∧ C ≤ 10 := by omega
  have hwC : IntKind.i64.wrap (1 + x4) = (C : Int) := by rw [hC]; exact IntWalk.i64_in _ (by omega)
  have T4 := T2.upd U4 (by omega)
  have R4 := R3.upd U4 (by omega)
  have hs4 : G < w4.heap.size := T4.lt
  have U4 := U3.trans U4
  clear T2 R3 U3 S3 hC hs3
  go_wp2
  go_loopw [7] (fun i wr => ∃ (j q : Nat) (v : Value) (X : List Part2), j ≤ C ∧ i = .int .i64 j ∧ X.length + j = C ∧ (∀ p ∈ X, p.1.length ≤ 12) ∧ q + 60 * j ≤ k4 + 60 * C ∧ VBox wr G (.int .i64 H) v ∧ VBox wr w.heap.size (.int .i64 0) (.slice none 0 0) ∧ DrwP (G + 1) wr.heap.size wr v X ∧ Src W0 g bs q wr ∧ Upd g (g + 1) w wr) (fun i _ => (intOf i).toNat)
  case atStart => exact ⟨C, k4, _, [], by omega, by go_num, by simp, by simp, by omega, T4, R4, DrwP.nil _ _ _, S4, U4⟩
  case round =>
    obtain ⟨j, q, v, X, hj, rfl, hXl, hXb, hq, TB, RB, hD, SR, UR⟩ := hrel
    obtain ⟨wo, rfl⟩ : ∃ wo : World, wo = wr := ⟨_, rfl⟩
    have hGo := TB.lt
    by_cases hj0 : 0 < j
    · go_wp2_with fail
      refine (c_spec_l19Pattern W0 g q bs P _ SR (by omega) hPb).mono ?_; rintro e w5 ⟨u, xs, q5, rfl, hrow, -, hxs12, hq5, S5, U5⟩
      have hs5 := U5.size
      have TB5 := TB.upd U5 (by omega)
      have RB5 := RB.upd U5 (by omega)
      have hD5 := hD.upd U5 (Or.inr (by omega))
      have U5 := UR.trans U5
      obtain ⟨Y, hY1, hY2, hY3⟩ := hD5
      obtain ⟨au, cu, rfl, -, -⟩ := hrow.rd
      obtain ⟨ao, co, hv, -⟩ := (DrwP.rd ⟨Y, hY1, hY2, hY3⟩)
      subst hv
      clear TB RB hD SR UR
      have cod : w5.drew.cell? ⟨G, 1, none⟩ = some (.slice ao X.length co) := TB5.c1
      go_wp2_with fail
      
      refine wp_region_noPanic ?_; refine wp_region_L (S := untilL 8 10 (fun w' => w'.cell? ⟨G, 1, none⟩ = some (.slice ao X.length co)) (fun _ => True)) (by kernel_rfl) ?_
      (refine wpAnyL_take (S0 := (fun _ => True)) (i := 0) (q := 1) (v := ?lv1) rfl rfl (by kernel_rfl) (by kernel_rfl) (by kernel_rfl) (by kernel_rfl) (by kernel_rfl) (fun _ _ _ h => h) (fun _ _ _ _ => True.intro) (untilL_set (by decide) (by decide)) (Or.inl ⟨by rfl, ?lhy1⟩) ⟨fun _ => cod, fun _ => True.intro⟩ ?lrest1; case lhy1 => (intro w hSw; (try dsimp only at hSw); go_simp; (try with_reducible rfl)); (try simp only [Act.put, List.getElem_toArray, List.getElem_cons_zero, List.getElem_cons_succ, List.setIfInBounds_toArray, List.set_cons_zero, List.set_cons_succ])); (refine wpAnyL_take (S0 := (fun w' => w'.cell? ⟨G, 1, none⟩ = some (.slice ao X.length co))) (i := 1) (q := 8) (v := ?lv2) rfl rfl (by kernel_rfl) (by kernel_rfl) (by kernel_rfl) (by kernel_rfl) (by kernel_rfl) (fun _ _ _ h => h) (fun _ _ hq hS => hS.1 hq) (untilL_set (by decide) (by decide)) (Or.inl ⟨by rfl, ?lhy2⟩) ⟨fun _ => cod, fun _ => True.intro⟩ ?lrest2; case lhy2 => (intro w hSw; (try dsimp only at hSw); go_simp; (try with_reducible rfl)); (try simp only [Act.put, List.getElem_toArray, List.getElem_cons_zero, List.getElem_cons_succ, List.setIfInBounds_toArray, List.set_cons_zero, List.set_cons_succ])); (refine wpAnyL_take (S0 := (fun _ => True)) (i := 2) (q := 6) (v := ?lv3) rfl rfl (by kernel_rfl) (by kernel_rfl) (by kernel_rfl) (by kernel_rfl) (by kernel_rfl) (fun _ _ _ h => h) (fun _ _ _ _ => True.intro) (untilL_set (by decide) (by decide)) (Or.inl ⟨by rfl, ?lhy3⟩) ⟨fun _ => cod, fun _ => True.intro⟩ ?lrest3; case lhy3 => (intro w hSw; (try dsimp only at hSw); go_simp; (try with_reducible rfl)); (try simp only [Act.put, List.getElem_toArray, List.getElem_cons_zero, List.getElem_cons_succ, List.setIfInBounds_toArray, List.set_cons_zero, List.set_cons_succ])); (refine wpAnyL_take (S0 := (fun _ => True)) (i := 3) (q := 4) (v := ?lv4) rfl rfl (by kernel_rfl) (by kernel_rfl) (by kernel_rfl) (by kernel_rfl) (by kernel_rfl) (fun _ _ _ h => h) (fun _ _ _ _ => True.intro) (untilL_set (by decide) (by decide)) (Or.inl ⟨by rfl, ?lhy4⟩) ⟨fun _ => cod, fun _ => True.intro⟩ ?lrest4; case lhy4 => (intro w hSw; (try dsimp only at hSw); go_simp; (try with_reducible rfl)); (try simp only [Act.put, List.getElem_toArray, List.getElem_cons_zero, List.getElem_cons_succ, List.setIfInBounds_toArray, List.set_cons_zero, List.set_cons_succ]))
      refine wpAnyL_ready (rs := [4]) (by kernel_rfl) (by simp) ?_; refine AllReadyL.cons (i := 4) rfl (fun K hK => ?_) AllReadyL.nil
      go_simp
      refine (c_spec_l00Src_pick W0 g q5 bs 4 _ (S5.below (Below.refl _ _).dr) (by omega) (by omega)).mono ?_; rintro e w6 ⟨t, q6, rfl, ht0, ht1, -, hq6, S6, U6⟩
      have ht := ht1 (by omega)
      clear ht1
      have TB6 := (TB5.below (Below.refl _ _).dr).upd U6 (by omega)
      have RB6 := (RB5.below (Below.refl _ _).dr).upd U6 (by omega)
      have hs6 : w5.heap.size ≤ w6.heap.size := U6.size
      have hY3' : ∀ i, i < X.length → (Y.getD i qZ).2 = (X.getD i pZ).2 ∧ RdI w6 (Y.getD i qZ).1 (X.getD i pZ).1 ∧ ∀ b, (Y.getD i qZ).1.ownBlock = some b → (G + 1 ≤ b ∧ b < wo.heap.size) ∧ Value.ownBlock (.slice ao X.length co) ≠ some b := fun i hi => by
        obtain ⟨k1, k2, k3⟩ := hY3 i hi
        exact ⟨k1, rdI_updV (k2.below (Below.refl _ _).dr) U6 (fun b e => by have := (k3 b e).1; omega), k3⟩
      have hY2' : OwnRow 70 2 rowQ (G + 1) wo.heap.size w6 (.slice ao X.length co) Y := (hY2.below (Below.refl _ _).dr).upd U6 (Or.inr (by omega))
      have hu6 := rdI_updV (hrow.rd.below (Below.refl _ _).dr) U6 (fun b e => by have := OwnI.gt hrow.1 b e; omega)
      have U6 := (U5.trans (Upd.of_below (Below.refl _ _).dr)).trans U6
      have co6 := TB6.c1
      
      refine hK.out _ _ ⟨(fun _ => co6), (fun _ => True.intro)⟩ (fun hHeld => ?_); clear hK K; (try simp only [Act.put, List.getElem_toArray, List.getElem_cons_zero, List.getElem_cons_succ, List.setIfInBounds_toArray, List.set_cons_zero, List.set_cons_succ])
      have hwt : IntKind.i64.wrap (1 + t) = 1 + t := IntWalk.i64_in _ (by omega)
      (refine wpAnyL_take (S0 := (fun _ => True)) (i := 5) (q := 6) (v := ?lv5) rfl rfl (by kernel_rfl) (by kernel_rfl) (by kernel_rfl) (by kernel_rfl) (by kernel_rfl) (fun _ _ _ h => h) (fun _ _ _ _ => True.intro) (untilL_set (by decide) (by decide)) (Or.inl ⟨by rfl, ?lhy5⟩) ⟨fun _ => co6, fun _ => True.intro⟩ ?lrest5; case lhy5 => (intro w hSw; (try dsimp only at hSw); go_simp; (try with_reducible rfl)); (try simp only [Act.put, List.getElem_toArray, List.getElem_cons_zero, List.getElem_cons_succ, List.setIfInBounds_toArray, List.set_cons_zero, List.set_cons_succ])); (refine wpAnyL_take (S0 := (fun _ => True)) (i := 6) (q := 7) (v := ?lv6) rfl rfl (by kernel_rfl) (by kernel_rfl) (by kernel_rfl) (by kernel_rfl) (by kernel_rfl) (fun _ _ _ h => h) (fun _ _ _ _ => True.intro) (untilL_set (by decide) (by decide)) (Or.inl ⟨by rfl, ?lhy6⟩) ⟨fun _ => co6, fun _ => True.intro⟩ ?lrest6; case lhy6 => (intro w hSw; (try dsimp only at hSw); go_simp; (try with_reducible rfl)); (try simp only [Act.put, List.getElem_toArray, List.getElem_cons_zero, List.getElem_cons_succ, List.setIfInBounds_toArray, List.set_cons_zero, List.set_cons_succ]))
      refine wpAnyL_ready (rs := [7]) (by kernel_rfl) (by simp) ?_; refine AllReadyL.cons (i := 7) rfl (fun K hK => ?_) AllReadyL.nil
      go_simp
      have hb7 : Below w6.heap.size w6 (w6.alloc (Obj.cells #[.slice au xs.length cu, .int .i64 (1 + t)] 70)) := (Below.refl _ _).al _
      have co7 := keepc hb7 co6
      
      refine hK.out _ _ ⟨(fun _ => co7), (fun _ => True.intro)⟩ (fun hHeld => ?_); clear hK K; (try simp only [Act.put, List.getElem_toArray, List.getElem_cons_zero, List.getElem_cons_succ, List.setIfInBounds_toArray, List.set_cons_zero, List.set_cons_succ])
      refine wpAnyL_ready (rs := [8]) (by kernel_rfl) (by simp) ?_; refine AllReadyL.cons (i := 8) rfl (fun K hK => ?_) AllReadyL.nil
      refine step_push_row (row := rowQ) rfl _ _ _ _ rfl Tryz.underlying32 (.agg #[.slice none 0 0, .int .i64 0]) 32 infoQ rfl (by decide) (by decide) rowQ_len (G + 1) wo.heap.size w6.heap.size (.slice ao X.length co) Y (.slice au xs.length cu, 1 + t) #[.slice au xs.length cu, .int .i64 (1 + t)] _ rfl (fun u hu => by simp only [rowQ, List.mem_cons, List.not_mem_nil, or_false] at hu; rcases hu with rfl | rfl <;> rfl) rfl rfl (heap_alloc_new w6 _) (hY2'.al _) (by omega) (by have := hb7.size; omega) ?_
      intro v' w' ho' hg' hat' hs'
      have hDn := DrwP.snoc hY1 hY3' (fun b e => hY2'.2 b e) ho' hb7 hg' hat' hu6 (fun b e => by have := OwnI.gt hrow.1 b e; have := hrow.2 b e; omega) (by omega) (by omega)
      have hlv : ∀ n, Value.ownBlock (.slice ao X.length co) = some n → G + 1 ≤ n := fun n e => (World.ownsRow.lt hY2'.1 n e).1
      have TB' := (TB6.below hb7).grown hg' (fun e => by have := hlv G e; omega)
      have RB' := (RB6.below hb7).grown hg' (fun e => by have := hlv _ e; omega)
      have S' := (S6.below hb7).grown hg' (fun n e => by have := hlv n e; omega)
      have U' := updFresh' (U6.trans (Upd.of_below hb7)) hg' (fun n e => by have := hlv n e; omega)
      obtain ⟨a9, c9, hv9, -⟩ := hDn.rd
      obtain ⟨L9, hL9⟩ : ∃ L9, (X ++ [(xs, 1 + t)]).length = L9 := ⟨_, rfl⟩
      rw [hL9] at hv9
      subst hv9
      obtain ⟨TZ, gz⟩ := TB'.set1 (.slice a9 L9 c9)
      have RZ := RB'.grown gz (by simp only [ne_eq, Option.some.injEq]; omega)
      have SZ := S'.grown gz (fun n e => by simp only [Option.some.injEq] at e; omega)
      have UZ := updNew U' gz (by omega)
      have DZ := (hDn.upd (Upd.of_grown (lo := G) (hi := G + 1) gz (fun k hk => by simp only [Option.some.injEq] at hk; omega)) (Or.inr (Nat.le_refl _))).wide (Nat.le_refl _) gz.size
      have b0 := TB'.c0
      have b1 := TB'.c1
      have bf1 := TB'.f1
      
      refine hK.out _ _ ⟨(fun h => Bool.noConfusion (show true = false from h)), (fun _ => True.intro)⟩ (fun hHeld => ?_); clear hK K; (try simp only [Act.put, List.getElem_toArray, List.getElem_cons_zero, List.getElem_cons_succ, List.setIfInBounds_toArray, List.set_cons_zero, List.set_cons_succ])
      
      (refine wpAnyL_take (S0 := (fun _ => True)) (i := 9) (q := 10) (v := ?lv7) rfl rfl (by kernel_rfl) (by kernel_rfl) (by kernel_rfl) (by kernel_rfl) (by kernel_rfl) (fun _ _ _ h => h) (fun _ _ _ _ => True.intro) (untilL_set (by decide) (by decide)) (Or.inl ⟨by rfl, ?lhy7⟩) ⟨(fun h => Bool.noConfusion (show true = false from h)), fun _ => True.intro⟩ ?lrest7; case lhy7 => (intro w hSw; (try dsimp only at hSw); go_simp; (try with_reducible rfl)); (try simp only [Act.put, List.getElem_toArray, List.getElem_cons_zero, List.getElem_cons_succ, List.setIfInBounds_toArray, List.set_cons_zero, List.set_cons_succ]))
      refine wpAnyL_ready (rs := [10]) (by kernel_rfl) (by simp) ?_; refine AllReadyL.cons (i := 10) rfl (fun K hK => ?_) AllReadyL.nil
      go_simp
      refine hK.out _ _ ⟨(fun h => Bool.noConfusion (show true = false from h)), (fun h => Bool.noConfusion (show true = false from h))⟩ (fun hHeld => ?_); clear hK K; (try simp only [Act.put, List.getElem_toArray, List.getElem_cons_zero, List.getElem_cons_succ, List.setIfInBounds_toArray, List.set_cons_zero, List.set_cons_succ])
      refine wpAnyL_done (by kernel_rfl) ?_ _; refine NoPanic.normal ?_
      clear b0 b1 bf1
      generalize w'.setCell ⟨G, 1, none⟩ (.slice a9 L9 c9) = wz at *
      go_wp2
      go_roundw
      case rel => exact ⟨j - 1, q6, _, X ++ [(xs, 1 + t)], by omega, by rw [show ((j - 1 : Nat) : Int) = (j : Int) - 1 by omega], by simp; omega, (fun p hp => by rcases List.mem_append.1 hp with hp | hp; exact hXb p hp; rw [List.mem_singleton.1 hp]; exact hxs12.2), by omega, TZ, RZ, DZ, SZ, UZ⟩
      case measure => simp [intOf]; omega
    · have hgl := SR.lt
      obtain ⟨av, cv, hvv, -⟩ := hD.rd
      obtain ⟨LX, hLX⟩ : ∃ LX, X.length = LX := ⟨_, rfl⟩
      rw [hLX] at hvv
      subst hvv
      have t0 := TB.c0
      have t1 := TB.c1
      have r0 := RB.c0
      have r1 := RB.c1
      have rf0 := RB.f0
      have rf1 := RB.f1
      obtain ⟨TZ, gz⟩ := RB.set (.int .i64 H) (.slice av LX cv)
      have SZ := SR.grown gz (fun n e => by simp only [Option.some.injEq] at e; omega)
      have UZ := updNew UR gz (Nat.le_refl _)
      have DZ := ((hD.upd (Upd.of_grown (lo := w.heap.size) (hi := w.heap.size + 1) gz (fun k hk => by simp only [Option.some.injEq] at hk; omega)) (Or.inr (by omega))).wide (show w.heap.size ≤ G + 1 by omega) gz.size)
      go_wp2
      have X0 := TZ.c0
      have X1 := TZ.c1
      exact bodyPost_ret (v := .agg #[.int .i64 H, .slice av LX cv]) (by simp [results, Tryz.results76, go_sem, X0, X1]) rfl ⟨_, X, H, q, rfl, DZ, by omega, hXb, by omega, SZ, UZ⟩
end Go.Proofs.YtioemkdapoombaaGreatDoor
