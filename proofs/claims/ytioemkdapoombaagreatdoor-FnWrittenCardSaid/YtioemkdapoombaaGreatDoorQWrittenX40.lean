/- The law WrittenX: what it rests on, part 40 of 46. -/
import Derived.Test.YtioemkdapoombaaGreatDoorQWrittenX39
namespace Go.Proofs.YtioemkdapoombaaGreatDoor
open Go.ChangeShapes Go.WideShapes Go.ChangeAt Go.RowKit
set_option linter.unusedSimpArgs false
set_option linter.unusedVariables false
section
variable {lo hi b n c : Nat} {w : World} {X : List Part2}
theorem DrwP.zero (h : DrwP lo hi w (.slice (some ⟨b, 0, none⟩) n c) X) (hX : 0 < X.length) : ∃ u, w.cell? ⟨b, 0, none⟩ = some u ∧ w.cell? ⟨b, 1, none⟩ = some (.int .i64 (X.getD 0 pZ).2) ∧ w.frozen? ⟨b, 0, none⟩ = false ∧ w.frozen? ⟨b, 1, none⟩ = false ∧ RdI w u (X.getD 0 pZ).1 ∧ ∀ k, u.ownBlock = some k → (lo ≤ k ∧ k < hi) ∧ k ≠ b := by
  obtain ⟨Y, h1, h2, h3⟩ := h
  have hY : 0 < Y.length := by omega
  obtain ⟨a, cap, e, hl, hc⟩ := h2.rd rowQ_len
  cases e
  obtain ⟨b', off, ha, hx⟩ := hc 0 hY
  cases ha
  obtain ⟨j1, j2, j3⟩ := h3 0 hX
  have eY : Y.getD 0 qZ = Y[0] := by simp [List.getD, hY]
  rw [eY] at j1 j2 j3
  have f0 := (OwnRow.at rowQ_len h2 0 0 hY (by decide)).2
  have f1 := (OwnRow.at rowQ_len h2 0 1 hY (by decide)).2
  have c0 := hx 0 _ rfl
  have c1 := hx 1 _ rfl
  simp only [Nat.zero_mul, Nat.zero_add, Nat.add_zero] at c0 c1 f0 f1
  refine ⟨Y[0].1, c0, by rw [← j1]; exact c1, f0, f1, j2, fun k hk => ?_⟩
  obtain ⟨q1, q2⟩ := j3 k hk
  exact ⟨q1, fun e => q2 (by rw [e]; rfl)⟩
theorem set_flat0 (Y : List (Value × Int)) (u : Value) (hY : 0 < Y.length) : (Y.flatMap rowQ).set 0 u = (Y.set 0 (u, (Y.getD 0 qZ).2)).flatMap rowQ := by
  cases Y with
  | nil => simp at hY
  | cons y Y => simp [rowQ]
theorem set_flat1 (Y : List (Value × Int)) (t : Int) (hY : 0 < Y.length) : (Y.flatMap rowQ).set 1 (.int .i64 t) = (Y.set 0 ((Y.getD 0 qZ).1, t)).flatMap rowQ := by
  cases Y with
  | nil => simp at hY
  | cons y Y => simp [rowQ]
theorem getD_set0 {α : Type} (L : List α) (a z : α) (i : Nat) (hi : i < L.length) : (L.set 0 a).getD i z = if i = 0 then a else L.getD i z := by
  by_cases h : i = 0
  · subst h; simp [List.getD, hi]
  · rw [if_neg h, List.getD_eq_getElem?_getD, List.getElem?_set_ne (by omega), List.getD_eq_getElem?_getD]
theorem rdI_set {u v : Value} {ps : List Int} {j : Nat} (h : RdI w u ps) (hn : ∀ k, u.ownBlock = some k → k ≠ b) : RdI (w.setCell ⟨b, j, none⟩ v) u ps :=
  rdI_updV h (Upd.of_grown (lo := b) (hi := b + 1) (grownBy_setCells w b [v] j) (fun k hk => by simp only [Option.some.injEq] at hk; omega)) (fun k hk => by have := hn k hk; omega)
theorem DrwP.setT (h : DrwP lo hi w (.slice (some ⟨b, 0, none⟩) n c) X) (hX : 0 < X.length) (t : Int) : DrwP lo hi (w.setCell ⟨b, 1, none⟩ (.int .i64 t)) (.slice (some ⟨b, 0, none⟩) n c) (X.set 0 ((X.getD 0 pZ).1, t)) := by
  obtain ⟨Y, h1, h2, h3⟩ := h
  have hY : 0 < Y.length := by omega
  obtain rfl : n = Y.length := by obtain ⟨a, c', e, -⟩ := h2.rd rowQ_len; cases e; rfl
  have s := World.ownsRow.stored h2.1 1 (.int .i64 t)
  refine ⟨Y.set 0 ((Y.getD 0 qZ).1, t), by simp [h1], ⟨?_, h2.2⟩, fun i hi' => ?_⟩
  · rw [List.length_set, ← set_flat1 Y t hY]; exact s.1
  · rw [List.length_set] at hi'
    rw [getD_set0 _ _ _ _ (by omega), getD_set0 _ _ _ _ hi']
    obtain ⟨j1, j2, j3⟩ := h3 i hi'
    by_cases h0 : i = 0
    · subst h0
      rw [if_pos rfl, if_pos rfl]
      exact ⟨rfl, rdI_set j2 (fun k hk e => (j3 k hk).2 (by rw [e]; rfl)), j3⟩
    · rw [if_neg h0, if_neg h0]
      exact ⟨j1, rdI_set j2 (fun k hk e => (j3 k hk).2 (by rw [e]; rfl)), j3⟩
theorem DrwP.setP (h : DrwP lo hi w (.slice (some ⟨b, 0, none⟩) n c) X) (hX : 0 < X.length) (u : Value) (ps : List Int) (hu : RdI w u ps) (hub : ∀ k, u.ownBlock = some k → (lo ≤ k ∧ k < hi) ∧ k ≠ b) : DrwP lo hi (w.setCell ⟨b, 0, none⟩ u) (.slice (some ⟨b, 0, none⟩) n c) (X.set 0 (ps, (X.getD 0 pZ).2)) := by
  obtain ⟨Y, h1, h2, h3⟩ := h
  have hY : 0 < Y.length := by omega
  obtain rfl : n = Y.length := by obtain ⟨a, c', e, -⟩ := h2.rd rowQ_len; cases e; rfl
  have s := World.ownsRow.stored h2.1 0 u
  refine ⟨Y.set 0 (u, (Y.getD 0 qZ).2), by simp [h1], ⟨?_, h2.2⟩, fun i hi' => ?_⟩
  · rw [List.length_set, ← set_flat0 Y u hY]; exact s.1
  · rw [List.length_set] at hi'
    rw [getD_set0 _ _ _ _ (by omega), getD_set0 _ _ _ _ hi']
    obtain ⟨j1, j2, j3⟩ := h3 i hi'
    by_cases h0 : i = 0
    · subst h0
      rw [if_pos rfl, if_pos rfl]
      refine ⟨j1, rdI_set hu (fun k hk => (hub k hk).2), fun k hk => ⟨(hub k hk).1, fun e => (hub k hk).2 (by cases e; rfl)⟩⟩
    · rw [if_neg h0, if_neg h0]
      exact ⟨j1, rdI_set j2 (fun k hk e => (j3 k hk).2 (by rw [e]; rfl)), j3⟩
end
theorem rd3 (w : World) (a b c : Int) : RdI (w.alloc (Obj.cells #[.int .i64 a, .int .i64 b, .int .i64 c] 2)) (.slice (some ⟨w.heap.size, 0, none⟩) 3 3) [a, b, c] := by
  refine ⟨_, _, rfl, by simp, fun k hk => ⟨w.heap.size, 0, rfl, ?_⟩⟩
  have hk' : k < 3 := by simpa using hk
  have : k = 0 ∨ k = 1 ∨ k = 2 := by omega
  rcases this with rfl | rfl | rfl <;> exact World.cell?_alloc_at _ _ _ _ rfl
set_option maxHeartbeats 4000000 in
set_option maxRecDepth 100000 in
theorem c_spec_l19Own (xs : List Int) (t : Int) (v : Value) (G o : Nat) (w : World) (c0 : w.cell? ⟨G, o, none⟩ = some v) (c1 : w.cell? ⟨G, o + 1, none⟩ = some (.int .i64 t)) (hr : RdI w v xs) (hl : xs.length ≤ 1000000) :
    Calls Tryz.prog 78 #[.pointer (some ⟨G, o, none⟩)] w fun e w' => ∃ u, e = .returned (.agg #[u, .int .i64 t]) ∧ OwnI1 w.heap.size w' u xs ∧ Below w.heap.size w w' := by
  have R0 := VBox.new w 70 (.slice none 0 0) (.int .i64 0)
  have hb0 : Below w.heap.size w (w.alloc (Obj.cells #[.slice none 0 0, .int .i64 0] 70)) := (Below.refl _ _).al _
  have p0 := keepc hb0 c0
  have p1 := keepc hb0 c1
  have HR := Lib.hid (hr.below hb0)
  have hG : G < w.heap.size := World.block_lt_of_cell? _ _ c0
  have hs0 := R0.lt
  obtain ⟨av, cv, rfl, -, -⟩ := hr
  clear c0 c1
  go_enter Tryz.func78, Tryz.ntmps78
  go_wp2_with fail
  generalize (w.alloc (Obj.cells #[.slice none 0 0, .int .i64 0] 70)) = w0 at *
  refine wp_region_noPanic ?_
  refine wp_region_held_drew (S := fun w' => w'.cell? ⟨G, o, none⟩ = some (.slice av xs.length cv) ∧ w'.cell? ⟨G, o + 1, none⟩ = some (.int .i64 t)) (by kernel_rfl) ?_ (fun hHeld => ?_)
  · exact ⟨p0, p1⟩
  (refine wpAnyH_take (i := 0) (v := ?tv1) rfl (by kernel_rfl) (by kernel_rfl) (by kernel_rfl) (fun _ _ _ h => h) (Or.inl ⟨by rfl, ?thy1⟩) (by assumption) ?trest1; case thy1 => (intro w hSw; (try dsimp only at hSw); go_simp; (try with_reducible rfl)); (try simp only [Act.put, List.getElem_toArray, List.getElem_cons_zero, List.getElem_cons_succ, List.setIfInBounds_toArray, List.set_cons_zero, List.set_cons_succ])); (refine wpAnyH_take (i := 1) (v := ?tv2) rfl (by kernel_rfl) (by kernel_rfl) (by kernel_rfl) (fun _ _ _ h => h) (Or.inl ⟨by rfl, ?thy2⟩) (by assumption) ?trest2; case thy2 => (intro w hSw; (try dsimp only at hSw); go_simp; (try with_reducible rfl)); (try simp only [Act.put, List.getElem_toArray, List.getElem_cons_zero, List.getElem_cons_succ, List.setIfInBounds_toArray, List.set_cons_zero, List.set_cons_succ])); (refine wpAnyH_take (i := 2) (v := ?tv3) rfl (by kernel_rfl) (by kernel_rfl) (by kernel_rfl) (fun _ _ _ h => h) (Or.inl ⟨by rfl, ?thy3⟩) (by assumption) ?trest3; case thy3 => (intro w hSw; (try dsimp only at hSw); go_simp; (try with_reducible rfl)); (try simp only [Act.put, List.getElem_toArray, List.getElem_cons_zero, List.getElem_cons_succ, List.setIfInBounds_toArray, List.set_cons_zero, List.set_cons_succ])); (refine wpAnyH_take (i := 3) (v := ?tv4) rfl (by kernel_rfl) (by kernel_rfl) (by kernel_rfl) (fun _ _ _ h => h) (Or.inl ⟨by rfl, ?thy4⟩) (by assumption) ?trest4; case thy4 => (intro w hSw; (try dsimp only at hSw); go_simp; (try with_reducible rfl)); (try simp only [Act.put, List.getElem_toArray, List.getElem_cons_zero, List.getElem_cons_succ, List.setIfInBounds_toArray, List.set_cons_zero, List.set_cons_succ])); (refine wpAnyH_take (i := 5) (v := ?tv5) rfl (by kernel_rfl) (by kernel_rfl) (by kernel_rfl) (fun _ _ _ h => h) (Or.inl ⟨by rfl, ?thy5⟩) (by assumption) ?trest5; case thy5 => (intro w hSw; (try dsimp only at hSw); go_simp; (try with_reducible rfl)); (try simp only [Act.put, List.getElem_toArray, List.getElem_cons_zero, List.getElem_cons_succ, List.setIfInBounds_toArray, List.set_cons_zero, List.set_cons_succ])); (refine wpAnyH_take (i := 6) (v := ?tv6) rfl (by kernel_rfl) (by kernel_rfl) (by kernel_rfl) (fun _ _ _ h => h) (Or.inl ⟨by rfl, ?thy6⟩) (by assumption) ?trest6; case thy6 => (intro w hSw; (try dsimp only at hSw); go_simp; (try with_reducible rfl)); (try simp only [Act.put, List.getElem_toArray, List.getElem_cons_zero, List.getElem_cons_succ, List.setIfInBounds_toArray, List.set_cons_zero, List.set_cons_succ])); (refine wpAnyH_take (i := 7) (v := ?tv7) rfl (by kernel_rfl) (by kernel_rfl) (by kernel_rfl) (fun _ _ _ h => h) (Or.inl ⟨by rfl, ?thy7⟩) (by assumption) ?trest7; case thy7 => (intro w hSw; (try dsimp only at hSw); go_simp; (try with_reducible rfl)); (try simp only [Act.put, List.getElem_toArray, List.getElem_cons_zero, List.getElem_cons_succ, List.setIfInBounds_toArray, List.set_cons_zero, List.set_cons_succ])); (refine wpAnyH_take (i := 8) (v := ?tv8) rfl (by kernel_rfl) (by kernel_rfl) (by kernel_rfl) (fun _ _ _ h => h) (Or.inl ⟨by rfl, ?thy8⟩) (by assumption) ?trest8; case thy8 => (intro w hSw; (try dsimp only at hSw); go_simp; (try with_reducible rfl)); (try simp only [Act.put, List.getElem_toArray, List.getElem_cons_zero, List.getElem_cons_succ, List.setIfInBounds_toArray, List.set_cons_zero, List.set_cons_succ]))
  refine wpAnyH_ready (rs := [4]) (by kernel_rfl) (by simp) ?_; refine AllReadyH.cons (i := 4) rfl (fun K hK => ?_) AllReadyH.nil
  go_simp
  refine (c_spec_l00Own xs _ _ (HR.out.below (Below.refl _ _).dr) hl).mono ?_; rintro e w1 ⟨u, rfl, ho, hb1⟩
  have hb1' := below_drew hb1
  have q0 := keepc hb1' p0
  have q1 := keepc hb1' p1
  have R1 := R0.below hb1'
  have hs1 : w0.heap.size ≤ w1.heap.size := hb1.size
  refine hK.out _ _ ⟨q0, q1⟩ (fun hHeld => ?_)
  clear hK K
  (try simp only [Act.put, List.setIfInBounds_toArray, List.set_cons_zero, List.set_cons_succ])
  obtain ⟨au, cu, rfl, -, -⟩ := ho.rd
  (refine wpAnyH_take (i := 9) (v := ?tv9) rfl (by kernel_rfl) (by kernel_rfl) (by kernel_rfl) (fun _ _ _ h => h) (Or.inl ⟨by rfl, ?thy9⟩) (by assumption) ?trest9; case thy9 => (intro w hSw; (try dsimp only at hSw); go_simp; (try with_reducible rfl)); (try simp only [Act.put, List.getElem_toArray, List.getElem_cons_zero, List.getElem_cons_succ, List.setIfInBounds_toArray, List.set_cons_zero, List.set_cons_succ]))
  have hou : ∀ k, Value.ownBlock (.slice au xs.length cu) = some k → w0.heap.size ≤ k := fun k e => OwnI.gt ho k e
  obtain ⟨TZ, gz⟩ := R1.set (.slice au xs.length cu) (.int .i64 t)
  have s0 := grown_c gz q0 (by simp only [ne_eq, Option.some.injEq]; omega)
  have s1 := grown_c gz q1 (by simp only [ne_eq, Option.some.injEq]; omega)
  have b0 := R1.c0
  have b1 := R1.c1
  have bf0 := R1.f0
  have bf1 := R1.f1
  have OZ := (OwnIR.off ho.ir gz (fun k hk => Or.inl (by simp only [Option.some.injEq] at hk; show k < w0.heap.size; omega))).1
  refine wpAnyH_ready (rs := [10]) (by kernel_rfl) (by simp) ?_; refine AllReadyH.cons (i := 10) rfl (fun K hK => ?_) AllReadyH.nil
  go_simp
  refine hK.out _ _ ⟨s0, s1⟩ (fun hHeld => ?_)
  clear hK K
  (try simp only [Act.put, List.setIfInBounds_toArray, List.set_cons_zero, List.set_cons_succ])
  refine wpAnyH_done (by kernel_rfl) ?_ _
  refine NoPanic.normal ?_
  have BZ := (hb0.tr hb1').grown gz (by omega) (fun k hk => by simp only [Option.some.injEq] at hk; omega)
  have X0 := TZ.c0
  have X1 := TZ.c1
  generalize ((w1.setCell ⟨w.heap.size, 0, none⟩ (.slice au xs.length cu)).setCell ⟨w.heap.size, 1, none⟩ (.int .i64 t)) = wz at *
  go_wp2
  exact bodyPost_ret (v := .agg #[.slice au xs.length cu, .int .i64 t]) (by simp [results, Tryz.results78, go_sem, X0, X1]) rfl ⟨_, rfl, OZ.base (by show w.heap.size ≤ w0.drew.heap.size; exact Nat.le_of_lt hs0), BZ⟩
theorem getD0_len {X : List Part2} (h : ∀ p ∈ X, p.1.length ≤ 13) : (X.getD 0 pZ).1.length ≤ 13 := by
  cases X with
  | nil => exact Nat.zero_le _
  | cons x X => exact h x (List.mem_cons_self ..)
theorem set0_len {X : List Part2} (h : ∀ p ∈ X, p.1.length ≤ 13) {q : Part2} (hq : q.1.length ≤ 13) : ∀ p ∈ X.set 0 q, p.1.length ≤ 13 := fun p hp => by
  rcases List.mem_or_eq_of_mem_set hp with hp | rfl
  · exact h p hp
  · exact hq
set_option maxHeartbeats 16000000 in
set_option maxRecDepth 100000 in
theorem c_spec_l19BentB (W0 : World) (g k : Nat) (bs : List Int) (w : World) (h : Src W0 g bs k w) (hk : k < 400000) :
    Calls Tryz.prog 43 #[.pointer (some ⟨g, 0, none⟩)] w fun e w' => ∃ (v : Value) (X : List Part2) (H : Int) (k' : Nat), e = .returned (.agg #[.int .i64 H, v]) ∧ DrwP w.heap.size w'.heap.size w' v X ∧ k' ≤ k + 6000 ∧ Src W0 g bs k' w' ∧ Upd g (g + 1) w w' ∧ ∀ p ∈ X, p.1.length ≤ 13 := by
  have hgw := h.lt
  have R0 := VBox.new w 34 (.int .i64 0) (.slice none 0 0)
  have hb0 : Below w.heap.size w (w.alloc (Obj.cells #[.int .i64 0, .slice none 0 0] 34)) := (Below.refl _ _).al _
  have S0 := h.below hb0
  have U0 : Upd g (g + 1) w (w.alloc (Obj.cells #[.int .i64 0, .slice none 0 0] 34)) := Upd.of_below hb0
  have hs0 := R0.lt
  clear h hb0
  go_enter Tryz.func43, Tryz.ntmps43
  go_wp2_with fail
  generalize (w.alloc (Obj.cells #[.int .i64 0, .slice none 0 0] 34)) = w0 at *
  refine (c_spec_l19Draw W0 g k bs 4 _ S0 (by omega) (by omega)).mono ?_; rintro e w1 ⟨v, X, H, k1, rfl, hD, hX, hXb, hk1, S1, U1⟩
  have hs1 := U1.size
  have R1 := R0.upd U1 (by omega)
  have U1 := U0.trans U1
  have hlt1 := hD.lt
  obtain ⟨b, n, c, rfl⟩ : ∃ b n c, v = .slice (some ⟨b, 0, none⟩) n c := by
    obtain ⟨Y, h1, h2, h3⟩ := hD
    exact OwnRow.form h2 (by omega)
  have hbb := hlt1 b rfl
  have HVN : Hid (n = X.length) := by obtain ⟨a, c', e, -⟩ := hD.rd; cases e; rfl
  have HXB := Lib.hid hXb
  have HX3 : Hid (∀ p ∈ X, p.1.length ≤ 13) := fun p hp => Nat.le_trans (hXb p hp) (by decide)
  clear hXb
  have T1 := VBox.new w1 34 (.int .i64 H) (.slice (some ⟨b, 0, none⟩) n c)
  have hb2 : Below w1.heap.size w1 (w1.alloc (Obj.cells #[.int .i64 H, .slice (some ⟨b, 0, none⟩) n c] 34)) := (Below.refl _ _).al _
  have S2 := S1.below hb2
  have U2 := U1.trans (Upd.of_below (lo := g) (hi := g + 1) hb2)
  have R2 := R1.below hb2
  have D2 := hD.below hb2
  have hRG := R1.lt
  have hs2 := T1.lt
  clear R0 U0 S0 R1 U1 S1 hD hlt1
  go_wp2_with fail
  clear hb2
  generalize (w1.alloc (Obj.cells #[.int .i64 H, .slice (some ⟨b, 0, none⟩) n c] 34)) = w2 at *
  generalize w1.heap.size = G at *
  refine (c_spec_l00Src_pick W0 g k1 bs 20 _ S2 (by omega) (by omega)).mono ?_; rintro e w3 ⟨z, k3, rfl, hz0, hz1, -, hk3, S3, U3⟩
  have hz := hz1 (by omega)
  clear hz1
  have T3 := T1.upd U3 (by omega)
  have R3 := R2.upd U3 (by omega)
  have D3 := D2.upd U3 (Or.inr (by omega))
  have hs3 := U3.size
  have U3 := U2.trans U3
  have hgl3 := S3.lt
  have hGl3 := T3.lt
  clear T1 R2 D2 S2 U2
  by_cases z0 : z = 0
  · subst z0
    have hb4 : Below w3.heap.size w3 (w3.alloc (Obj.cells #[.int .i64 0, .int .i64 2, .int .i64 10, .int .i64 11] 2)) := (Below.refl _ _).al _
    go_wp2_with fail
    refine (c_spec_l00Src_among W0 g k3 bs [0, 2, 10, 11] _ _ (S3.below hb4) (rd4 _ _ _ _ _) (by omega) (by simp) (fun n e => by simp only [Value.ownBlock, Option.some.injEq] at e; omega)).mono ?_; rintro e w5 ⟨q, k5, rfl, -, hk5, S5, U5⟩
    have T5 := (T3.below hb4).upd U5 (by omega)
    have R5 := (R3.below hb4).upd U5 (by omega)
    have D5 := (D3.below hb4).upd U5 (Or.inr (by omega))
    have U5 := (U3.trans (Upd.of_below hb4)).trans U5
    obtain ⟨T6, g6⟩ := T5.set0 (.int .i64 q)
    have R6 := R5.grown g6 (by simp only [ne_eq, Option.some.injEq]; omega)
    have S6 := S5.grown g6 (fun n e => by simp only [Option.some.injEq] at e; omega)
    have U6 := updNew U5 g6 (by omega)
    have D6 := D5.upd (Upd.of_grown (lo := G) (hi := G + 1) g6 (fun k hk => by simp only [Option.some.injEq] at hk; omega)) (Or.inl (by omega))
    have a0 := T5.c0
    have a1 := T5.c1
    have af0 := T5.f0
    have af1 := T5.f1
    clear hb4
    obtain ⟨wt, hwt⟩ : ∃ wt, w5.setCell ⟨G, 0, none⟩ (.int .i64 q) = wt := ⟨_, rfl⟩
    rw [hwt] at T6 R6 S6 U6 D6
    have D6 := D6.wide (Nat.le_refl _) (show G ≤ wt.heap.size by have := T6.lt; omega)
    have t0 := T6.c0
    have t1 := T6.c1
    have r0 := R6.c0
    have r1 := R6.c1
    have rf0 := R6.f0
    have rf1 := R6.f1
    obtain ⟨TZ, gz⟩ := R6.set (.int .i64 q) (.slice (some ⟨b, 0, none⟩) n c)
    have SZ := S6.grown gz (fun n e => by simp only [Option.some.injEq] at e; omega)
    have UZ := updNew U6 gz (Nat.le_refl _)
    have DZ := (D6.upd (Upd.of_grown (lo := w.heap.size) (hi := w.heap.size + 1) gz (fun k hk => by simp only [Option.some.injEq] at hk; omega)) (Or.inr (by omega)))
    go_wp2
    have X0 := TZ.c0
    have X1 := TZ.c1
    exact bodyPost_ret (v := .agg #[.int .i64 q, (.slice (some ⟨b, 0, none⟩) n c)]) (by simp [results, Tryz.results43, go_sem, X0, X1]) rfl ⟨_, X, q, k5, rfl, DZ.wide (by omega) (by have h1 := gz.size; have h2 := T6.lt; omega), by omega, SZ, UZ, HX3.out⟩
  by_cases z1 : z = 1
  · subst z1
    have p0 := T3.c0
    have p1 := T3.c1
    have hb4 : Below w3.heap.size w3 (w3.alloc (Obj.cells #[.int .i64 0, .int .i64 20, .int .i64 21] 2)).drew := ((Below.refl _ _).al _).dr
    have S4 := S3.below hb4
    have U4 := U3.trans (Upd.of_below (lo := g) (hi := g + 1) hb4)
    have R4 := R3.below hb4
    have T4 := T3.below hb4
    have D4 := D3.below hb4
    have hs4 := hb4.size
    have rd4' := rd3 w3 0 20 21
    go_wp2_with fail
    refine wp_region_noPanic ?_
    refine wp_region_held_drew (S := fun w' => w'.cell? ⟨G, 0, none⟩ = some (.int .i64 H) ∧ w'.cell? ⟨G, 1, none⟩ = some (.slice (some ⟨b, 0, none⟩) n c)) (by kernel_rfl) ?_ (fun hHeld => ?_)
    · exact ⟨p0, p1⟩
    (refine wpAnyH_take (i := 0) (v := ?tv10) rfl (by kernel_rfl) (by kernel_rfl) (by kernel_rfl) (fun _ _ _ h => h) (Or.inl ⟨by rfl, ?thy10⟩) (by assumption) ?trest10; case thy10 => (intro w hSw; (try dsimp only at hSw); go_simp; (try with_reducible rfl)); (try simp only [Act.put, List.getElem_toArray, List.getElem_cons_zero, List.getElem_cons_succ, List.setIfInBounds_toArray, List.set_cons_zero, List.set_cons_succ])); (refine wpAnyH_take (i := 1) (v := ?tv11) rfl (by kernel_rfl) (by kernel_rfl) (by kernel_rfl) (fun _ _ _ h => h) (Or.inl ⟨by rfl, ?thy11⟩) (by assumption) ?trest11; case thy11 => (intro w hSw; (try dsimp only at hSw); go_simp; (try with_reducible rfl)); (try simp only [Act.put, List.getElem_toArray, List.getElem_cons_zero, List.getElem_cons_succ, List.setIfInBounds_toArray, List.set_cons_zero, List.set_cons_succ])); (refine wpAnyH_take (i := 2) (v := ?tv12) rfl (by kernel_rfl) (by kernel_rfl) (by kernel_rfl) (fun _ _ _ h => h) (Or.inl ⟨by rfl, ?thy12⟩) (by assumption) ?trest12; case thy12 => (intro w hSw; (try dsimp only at hSw); go_simp; (try with_reducible rfl)); (try simp only [Act.put, List.getElem_toArray, List.getElem_cons_zero, List.getElem_cons_succ, List.setIfInBounds_toArray, List.set_cons_zero, List.set_cons_succ]))
    refine wpAnyH_ready (rs := [3]) (by kernel_rfl) (by simp) ?_; refine AllReadyH.cons (i := 3) rfl (fun K hK => ?_) AllReadyH.nil
    go_simp
    refine hK.out _ _ ⟨T4.c0, T4.c1⟩ (fun hHeld => ?_)
    clear hK K
    (try simp only [Act.put, List.setIfInBounds_toArray, List.set_cons_zero, List.set_cons_succ])
    clear p0 p1 hb4
    generalize (w3.alloc (Obj.cells #[.int .i64 0, .int .i64 20, .int .i64 21] 2)) = w4 at *
    refine wpAnyH_ready (rs := [4]) (by kernel_rfl) (by simp) ?_; refine AllReadyH.cons (i := 4) rfl (fun K hK => ?_) AllReadyH.nil
    go_simp
    refine (c_spec_l00Src_among W0 g k3 bs [0, 20, 21] _ _ S4 (rd4'.below (Below.refl _ _).dr) (by omega) (by simp) (fun n e => by simp only [Value.ownBlock, Option.some.injEq] at e; omega)).mono ?_
    rintro e w5 ⟨q, k5, rfl, -, hk5, S5, U5⟩
    have T5 := T4.upd U5 (by omega)
    have R5 := R4.upd U5 (by omega)
    have D5 := D4.upd U5 (Or.inr (by omega))
    have hs5 := U5.size
    have U5 := U4.trans U5
    refine hK.out _ _ ⟨T5.c0, T5.c1⟩ (fun hHeld => ?_)
    clear hK K
    (try simp only [Act.put, List.setIfInBounds_toArray, List.set_cons_zero, List.set_cons_succ])
    have hin0 : (0 : Int) < (n : Int) := by have := HVN.out; omega
    have hinN : 0 < n := by omega
    (refine wpAnyH_take (i := 5) (v := ?tv13) rfl (by kernel_rfl) (by kernel_rfl) (by kernel_rfl) (fun _ _ _ h => h) (Or.inl ⟨by rfl, ?thy13⟩) (by assumption) ?trest13; case thy13 => (intro w hSw; (try dsimp only at hSw); go_simp; (try with_reducible rfl)); (try simp only [Act.put, List.getElem_toArray, List.getElem_cons_zero, List.getElem_cons_succ, List.setIfInBounds_toArray, List.set_cons_zero, List.set_cons_succ])); (refine wpAnyH_take (i := 6) (v := ?tv14) rfl (by kernel_rfl) (by kernel_rfl) (by kernel_rfl) (fun _ _ _ h => h) (Or.inl ⟨by rfl, ?thy14⟩) (by assumption) ?trest14; case thy14 => (intro w hSw; (try dsimp only at hSw); go_simp; (try with_reducible rfl)); (try simp only [Act.put, List.getElem_toArray, List.getElem_cons_zero, List.getElem_cons_succ, List.setIfInBounds_toArray, List.set_cons_zero, List.set_cons_succ]))
    obtain ⟨u0, y0, y1, yf0, yf1, -, -⟩ := D5.zero (by omega)
    have D6 := D5.setT (by omega) q
    have g6 : w5.grownBy (w5.setCell ⟨b, 1, none⟩ (.int .i64 q)) (some b) := grownBy_setCells w5 b [.int .i64 q] 1
    have T6 := T5.grown g6 (by simp only [ne_eq, Option.some.injEq]; omega)
    have R6 := R5.grown g6 (by simp only [ne_eq, Option.some.injEq]; omega)
    have S6 := S5.grown g6 (fun n e => by simp only [Option.some.injEq] at e; omega)
    have U6 := updNew U5 g6 (by omega)
    refine wpAnyH_ready (rs := [7]) (by kernel_rfl) (by simp) ?_; refine AllReadyH.cons (i := 7) rfl (fun K hK => ?_) AllReadyH.nil
    go_simp
    refine hK.out _ _ ⟨T6.c0, T6.c1⟩ (fun hHeld => ?_)
    clear hK K
    (try simp only [Act.put, List.setIfInBounds_toArray, List.set_cons_zero, List.set_cons_succ])
    refine wpAnyH_done (by kernel_rfl) ?_ _
    refine NoPanic.normal ?_
    clear y0 y1 yf0 yf1
    generalize (w5.setCell ⟨b, 1, none⟩ (.int .i64 q)) = wt at *
    have D6 := D6.wide (Nat.le_refl _) (show G ≤ wt.heap.size by have := T6.lt; omega)
    have t0 := T6.c0
    have t1 := T6.c1
    have r0 := R6.c0
    have r1 := R6.c1
    have rf0 := R6.f0
    have rf1 := R6.f1
    obtain ⟨TZ, gz⟩ := R6.set (.int .i64 H) (.slice (some ⟨b, 0, none⟩) n c)
    have SZ := S6.grown gz (fun n e => by simp only [Option.some.injEq] at e; omega)
    have UZ := updNew U6 gz (Nat.le_refl _)
    have DZ := (D6.upd (Upd.of_grown (lo := w.heap.size) (hi := w.heap.size + 1) gz (fun k hk => by simp only [Option.some.injEq] at hk; omega)) (Or.inr (by omega)))
    go_wp2
    have X0 := TZ.c0
    have X1 := TZ.c1
    exact bodyPost_ret (v := .agg #[.int .i64 H, (.slice (some ⟨b, 0, none⟩) n c)]) (by simp [results, Tryz.results43, go_sem, X0, X1]) rfl ⟨_, (X.set 0 ((X.getD 0 pZ).1, q)), H, k5, rfl, DZ.wide (by omega) (by have h1 := gz.size; have h2 := T6.lt; omega), by omega, SZ, UZ, set0_len HX3.out (getD0_len HX3.out)⟩
  by_cases z2 : z = 2
  · subst z2
    have p0 := T3.c0
    have p1 := T3.c1
    go_wp2_with fail
    refine wp_region_noPanic ?_
    refine wp_region_held_drew (S := fun w' => w'.cell? ⟨G, 0, none⟩ = some (.int .i64 H) ∧ w'.cell? ⟨G, 1, none⟩ = some (.slice (some ⟨b, 0, none⟩) n c)) (by kernel_rfl) ?_ (fun hHeld => ?_)
    · exact ⟨p0, p1⟩
    (refine wpAnyH_take (i := 0) (v := ?tv15) rfl (by kernel_rfl) (by kernel_rfl) (by kernel_rfl) (fun _ _ _ h => h) (Or.inl ⟨by rfl, ?thy15⟩) (by assumption) ?trest15; case thy15 => (intro w hSw; (try dsimp only at hSw); go_simp; (try with_reducible rfl)); (try simp only [Act.put, List.getElem_toArray, List.getElem_cons_zero, List.getElem_cons_succ, List.setIfInBounds_toArray, List.set_cons_zero, List.set_cons_succ])); (refine wpAnyH_take (i := 1) (v := ?tv16) rfl (by kernel_rfl) (by kernel_rfl) (by kernel_rfl) (fun _ _ _ h => h) (Or.inl ⟨by rfl, ?thy16⟩) (by assumption) ?trest16; case thy16 => (intro w hSw; (try dsimp only at hSw); go_simp; (try with_reducible rfl)); (try simp only [Act.put, List.getElem_toArray, List.getElem_cons_zero, List.getElem_cons_succ, List.setIfInBounds_toArray, List.set_cons_zero, List.set_cons_succ])); (refine wpAnyH_take (i := 2) (v := ?tv17) rfl (by kernel_rfl) (by kernel_rfl) (by kernel_rfl) (fun _ _ _ h => h) (Or.inl ⟨by rfl, ?thy17⟩) (by assumption) ?trest17; case thy17 => (intro w hSw; (try dsimp only at hSw); go_simp; (try with_reducible rfl)); (try simp only [Act.put, List.getElem_toArray, List.getElem_cons_zero, List.getElem_cons_succ, List.setIfInBounds_toArray, List.set_cons_zero, List.set_cons_succ]))
    refine wpAnyH_ready (rs := [3]) (by kernel_rfl) (by simp) ?_; refine AllReadyH.cons (i := 3) rfl (fun K hK => ?_) AllReadyH.nil
    go_simp
    refine (c_spec_l02Bent W0 g k3 bs _ (S3.below (Below.refl _ _).dr) (by omega)).mono ?_; rintro e w5 ⟨u, ps, k5, rfl, hrow, hps13, -, hk5, S5, U5⟩
    have T5 := (T3.below (Below.refl _ _).dr).upd U5 (by omega)
    have R5 := (R3.below (Below.refl _ _).dr).upd U5 (by omega)
    have D5 := (D3.below (Below.refl _ _).dr).upd U5 (Or.inr (by omega))
    have hs5 : w3.heap.size ≤ w5.heap.size := U5.size
    have U5 := (U3.trans (Upd.of_below (Below.refl _ _).dr)).trans U5
    have hub : ∀ k, u.ownBlock = some k → (w0.heap.size ≤ k ∧ k < w5.heap.size) ∧ k ≠ b := fun k e => by
      have h1 : w3.heap.size ≤ k := OwnI.gt hrow.1 k e
      have h2 := hrow.2 k e
      omega
    refine hK.out _ _ ⟨T5.c0, T5.c1⟩ (fun hHeld => ?_)
    clear hK K p0 p1
    (try simp only [Act.put, List.setIfInBounds_toArray, List.set_cons_zero, List.set_cons_succ])
    have hin0 : (0 : Int) < (n : Int) := by have := HVN.out; omega
    have hinN : 0 < n := by omega
    (refine wpAnyH_take (i := 4) (v := ?tv18) rfl (by kernel_rfl) (by kernel_rfl) (by kernel_rfl) (fun _ _ _ h => h) (Or.inl ⟨by rfl, ?thy18⟩) (by assumption) ?trest18; case thy18 => (intro w hSw; (try dsimp only at hSw); go_simp; (try with_reducible rfl)); (try simp only [Act.put, List.getElem_toArray, List.getElem_cons_zero, List.getElem_cons_succ, List.setIfInBounds_toArray, List.set_cons_zero, List.set_cons_succ])); (refine wpAnyH_take (i := 5) (v := ?tv19) rfl (by kernel_rfl) (by kernel_rfl) (by kernel_rfl) (fun _ _ _ h => h) (Or.inl ⟨by rfl, ?thy19⟩) (by assumption) ?trest19; case thy19 => (intro w hSw; (try dsimp only at hSw); go_simp; (try with_reducible rfl)); (try simp only [Act.put, List.getElem_toArray, List.getElem_cons_zero, List.getElem_cons_succ, List.setIfInBounds_toArray, List.set_cons_zero, List.set_cons_succ]))
    obtain ⟨au, cu, rfl, -, -⟩ := hrow.rd
    obtain ⟨u0, y0, y1, yf0, yf1, -, -⟩ := D5.zero (by omega)
    have D6 := (D5.wide (Nat.le_refl _) (show G ≤ w5.heap.size by omega)).setP (by omega) _ ps hrow.rd hub
    have g6 : w5.grownBy (w5.setCell ⟨b, 0, none⟩ (.slice au ps.length cu)) (some b) := grownBy_setCells w5 b [.slice au ps.length cu] 0
    have T6 := T5.grown g6 (by simp only [ne_eq, Option.some.injEq]; omega)
    have R6 := R5.grown g6 (by simp only [ne_eq, Option.some.injEq]; omega)
    have S6 := S5.grown g6 (fun n e => by simp only [Option.some.injEq] at e; omega)
    have U6 := updNew U5 g6 (by omega)
    refine wpAnyH_ready (rs := [6]) (by kernel_rfl) (by simp) ?_; refine AllReadyH.cons (i := 6) rfl (fun K hK => ?_) AllReadyH.nil
    go_simp
    refine hK.out _ _ ⟨T6.c0, T6.c1⟩ (fun hHeld => ?_)
    clear hK K
    (try simp only [Act.put, List.setIfInBounds_toArray, List.set_cons_zero, List.set_cons_succ])
    refine wpAnyH_done (by kernel_rfl) ?_ _
    refine NoPanic.normal ?_
    clear y0 y1 yf0 yf1
    have D6 := D6.wide (Nat.le_refl _) g6.size
    generalize (w5.setCell ⟨b, 0, none⟩ (.slice au ps.length cu)) = wt at *
    have t0 := T6.c0
    have t1 := T6.c1
    have r0 := R6.c0
    have r1 := R6.c1
    have rf0 := R6.f0
    have rf1 := R6.f1
    obtain ⟨TZ, gz⟩ := R6.set (.int .i64 H) (.slice (some ⟨b, 0, none⟩) n c)
    have SZ := S6.grown gz (fun n e => by simp only [Option.some.injEq] at e; omega)
    have UZ := updNew U6 gz (Nat.le_refl _)
    have DZ := (D6.upd (Upd.of_grown (lo := w.heap.size) (hi := w.heap.size + 1) gz (fun k hk => by simp only [Option.some.injEq] at hk; omega)) (Or.inr (by omega)))
    go_wp2
    have X0 := TZ.c0
    have X1 := TZ.c1
    exact bodyPost_ret (v := .agg #[.int .i64 H, (.slice (some ⟨b, 0, none⟩) n c)]) (by simp [results, Tryz.results43, go_sem, X0, X1]) rfl ⟨_, (X.set 0 (ps, (X.getD 0 pZ).2)), H, k5, rfl, DZ.wide (by omega) (by have h1 := gz.size; have h2 := T6.lt; omega), by omega, SZ, UZ, set0_len HX3.out hps13⟩
  by_cases z3 : z = 3
  · subst z3
    obtain ⟨T6, g6⟩ := T3.set1 (.slice none 0 0)
    have R6 := R3.grown g6 (by simp only [ne_eq, Option.some.injEq]; omega)
    have S6 := S3.grown g6 (fun n e => by simp only [Option.some.injEq] at e; omega)
    have U6 := updNew U3 g6 (by omega)
    have a0 := T3.c0
    have a1 := T3.c1
    have af0 := T3.f0
    have af1 := T3.f1
    obtain ⟨wt, hwt⟩ : ∃ wt, w3.setCell ⟨G, 1, none⟩ (.slice none 0 0) = wt := ⟨_, rfl⟩
    rw [hwt] at T6 R6 S6 U6
    have D6 := DrwP.nil (G + 1) (G + 1) wt
    have t0 := T6.c0
    have t1 := T6.c1
    have r0 := R6.c0
    have r1 := R6.c1
    have rf0 := R6.f0
    have rf1 := R6.f1
    obtain ⟨TZ, gz⟩ := R6.set (.int .i64 H) (.slice none 0 0)
    have SZ := S6.grown gz (fun n e => by simp only [Option.some.injEq] at e; omega)
    have UZ := updNew U6 gz (Nat.le_refl _)
    have DZ := (D6.upd (Upd.of_grown (lo := w.heap.size) (hi := w.heap.size + 1) gz (fun k hk => by simp only [Option.some.injEq] at hk; omega)) (Or.inr (by omega)))
    go_wp2
    have X0 := TZ.c0
    have X1 := TZ.c1
    exact bodyPost_ret (v := .agg #[.int .i64 H, (.slice none 0 0)]) (by simp [results, Tryz.results43, go_sem, X0, X1]) rfl ⟨_, [], H, k3, rfl, DZ.wide (by omega) (by have h1 := gz.size; have h2 := T6.lt; omega), by omega, SZ, UZ, fun p hp => by cases hp⟩
  by_cases z4 : z = 4
  · subst z4
    obtain ⟨u0, y0, y1, yf0, yf1, hru0, hub0⟩ := D3.zero (by omega)
    obtain ⟨xs0, hxs0⟩ : ∃ xs0, (X.getD 0 pZ).1 = xs0 := ⟨_, rfl⟩
    obtain ⟨t0, ht0⟩ : ∃ t0, (X.getD 0 pZ).2 = t0 := ⟨_, rfl⟩
    rw [hxs0] at hru0
    rw [ht0] at y1
    obtain ⟨a0, c0', rfl, -, -⟩ := hru0
    have hru0 : RdI w3 (.slice a0 xs0.length c0') xs0 := by
      obtain ⟨u0', y0', -, -, -, hru, -⟩ := D3.zero (by omega)
      rw [y0] at y0'
      cases y0'
      rw [hxs0] at hru
      exact hru
    obtain ⟨T4, g4⟩ := T3.set1 (.slice none 0 0)
    have R4 := R3.grown g4 (by simp only [ne_eq, Option.some.injEq]; omega)
    have S4 := S3.grown g4 (fun n e => by simp only [Option.some.injEq] at e; omega)
    have U4 := updNew U3 g4 (by omega)
    have hru4 := rdI_updV hru0 (Upd.of_grown (lo := G) (hi := G + 1) g4 (fun k hk => by simp only [Option.some.injEq] at hk; omega)) (fun k e => by have := hub0 k e; omega)
    have hsz : (w3.setCell ⟨G, 1, none⟩ (.slice none 0 0)).heap.size = w3.heap.size := by simp
    have tA0 := T3.c0
    have tA1 := T3.c1
    have tf1 := T3.f1
    have hin0 : (0 : Int) < (n : Int) := by have := HVN.out; omega
    have hinN : 0 < n := by omega
    have hnG : ¬ w3.heap.size = G := by omega
    clear T3 R3 S3 D3 U3 g4
    go_wp2_with fail
    clear y0 y1 yf0 yf1 tA0 tA1 tf1
    generalize (w3.setCell ⟨G, 1, none⟩ (.slice none 0 0)) = ws at *
    have FB := VBox.new ws 70 (.slice a0 xs0.length c0') (.int .i64 t0)
    have hb5 : Below ws.heap.size ws (ws.alloc (Obj.cells #[.slice a0 xs0.length c0', .int .i64 t0] 70)) := (Below.refl _ _).al _
    have T5 := T4.below hb5
    have R5 := R4.below hb5
    have S5 := S4.below hb5
    have U5 := U4.trans (Upd.of_below (lo := g) (hi := g + 1) hb5)
    have hru5 := hru4.below hb5
    have hFl := FB.lt
    rw [hsz] at FB hFl
    clear T4 R4 S4 U4 hru4 hb5
    generalize (ws.alloc (Obj.cells #[.slice a0 xs0.length c0', .int .i64 t0] 70)) = w5 at *
    generalize w3.heap.size = F at *
    clear hsz
    refine (c_spec_l00Src_pick W0 g k3 bs 2 _ S5 (by omega) (by omega)).mono ?_; rintro e w6 ⟨y6, k6, rfl, hy0, hy1, -, hk6, S6, U6⟩
    have hy := hy1 (by omega)
    clear hy1
    obtain ⟨D, hDD⟩ : ∃ D : Nat, 8 + y6 = (D : Int) := ⟨(8 + y6).toNat, by omega⟩
    have hDb : D ≤ 9 := by omega
    have hwD : IntKind.i64.wrap (8 + y6) = (D : Int) := by rw [hDD]; exact IntWalk.i64_in _ (by omega)
    have T6 := T5.upd U6 (by omega)
    have R6 := R5.upd U6 (by omega)
    have F6 := FB.upd U6 (by omega)
    have hru6 := Lib.hid (rdI_updV hru5 U6 (fun k e => by have := hub0 k e; omega))
    have U6 := U5.trans U6
    have HXL : Hid (xs0.length ≤ 13) := by
      have h1 := HXB.out (X.getD 0 pZ) (by rw [List.getD_eq_getElem?_getD, List.getElem?_eq_getElem (by omega)]; exact List.getElem_mem _)
      rw [hxs0] at h1
      exact Nat.le_trans h1 (by decide)
    have hxl : xs0.length ≤ 1000000 := by
      have h1 := HXB.out (X.getD 0 pZ) (by rw [List.getD_eq_getElem?_getD, List.getElem?_eq_getElem (by omega)]; exact List.getElem_mem _)
      rw [hxs0] at h1
      omega
    clear T5 R5 FB S5 U5 hru5 hDD hFl
    go_wp2
    go_loopw [5] (fun i wr => ∃ (j : Nat) (v : Value) (Z : List Part2), j ≤ D ∧ i = .int .i64 j ∧ Z.length + j = D ∧ VBox wr G (.int .i64 H) v ∧ VBox wr F (.slice a0 xs0.length c0') (.int .i64 t0) ∧ VBox wr w.heap.size (.int .i64 0) (.slice none 0 0) ∧ DrwP (F + 1) wr.heap.size wr v Z ∧ Hid (RdI wr (.slice a0 xs0.length c0') xs0) ∧ Src W0 g bs k6 wr ∧ Upd g (g + 1) w wr ∧ Hid (∀ p ∈ Z, p.1.length ≤ 13)) (fun i _ => (intOf i).toNat)
    case atStart => exact ⟨D, _, [], by omega, by go_num, by simp, T6, F6, R6, DrwP.nil _ _ _, hru6, S6, U6, Lib.hid (fun p hp => by cases hp)⟩
    case round =>
      obtain ⟨j, v, Z, hj, rfl, hZl, TB, FB, RB, hD, hru, SR, UR, HZB⟩ := hrel
      obtain ⟨wo, rfl⟩ : ∃ wo : World, wo = wr := ⟨_, rfl⟩
      have hFo := FB.lt
      have hgo := SR.lt
      obtain ⟨av, cv, hvv, -⟩ := hD.rd
      obtain ⟨LZ, hLZ⟩ : ∃ LZ, Z.length = LZ := ⟨_, rfl⟩
      rw [hLZ] at hvv
      subst hvv
      by_cases hj0 : 0 < j
      · obtain ⟨Y, hY1, hY2, hY3⟩ := hD
        have cod : wo.drew.cell? ⟨G, 1, none⟩ = some (.slice av LZ cv) := TB.c1
        have f0d : wo.drew.cell? ⟨F, 0, none⟩ = some (.slice a0 xs0.length c0') := FB.c0
        have f1d : wo.drew.cell? ⟨F, 0 + 1, none⟩ = some (.int .i64 t0) := FB.c1
        have hruD : RdI wo.drew (.slice a0 xs0.length c0') xs0 := hru.out
        go_wp2_with fail
        
        refine wp_region_noPanic ?_; refine wp_region_L (S := untilL 4 6 (fun w' => w'.cell? ⟨G, 1, none⟩ = some (.slice av LZ cv)) (fun _ => True)) (by kernel_rfl) ?_
        (refine wpAnyL_take (S0 := (fun _ => True)) (i := 0) (q := 1) (v := ?lv20) rfl rfl (by kernel_rfl) (by kernel_rfl) (by kernel_rfl) (by kernel_rfl) (by kernel_rfl) (fun _ _ _ h => h) (fun _ _ _ _ => True.intro) (untilL_set (by decide) (by decide)) (Or.inl ⟨by rfl, ?lhy20⟩) ⟨fun _ => cod, fun _ => True.intro⟩ ?lrest20; case lhy20 => (intro w hSw; (try dsimp only at hSw); go_simp; (try with_reducible rfl)); (try simp only [Act.put, List.getElem_toArray, List.getElem_cons_zero, List.getElem_cons_succ, List.setIfInBounds_toArray, List.set_cons_zero, List.set_cons_succ])); (refine wpAnyL_take (S0 := (fun w' => w'.cell? ⟨G, 1, none⟩ = some (.slice av LZ cv))) (i := 1) (q := 4) (v := ?lv21) rfl rfl (by kernel_rfl) (by kernel_rfl) (by kernel_rfl) (by kernel_rfl) (by kernel_rfl) (fun _ _ _ h => h) (fun _ _ hq hS => hS.1 hq) (untilL_set (by decide) (by decide)) (Or.inl ⟨by rfl, ?lhy21⟩) ⟨fun _ => cod, fun _ => True.intro⟩ ?lrest21; case lhy21 => (intro w hSw; (try dsimp only at hSw); go_simp; (try with_reducible rfl)); (try simp only [Act.put, List.getElem_toArray, List.getElem_cons_zero, List.getElem_cons_succ, List.setIfInBounds_toArray, List.set_cons_zero, List.set_cons_succ]))
        refine wpAnyL_ready (rs := [2]) (by kernel_rfl) (by simp) ?_; refine AllReadyL.cons (i := 2) rfl (fun K hK => ?_) AllReadyL.nil
        go_simp
        refine (c_spec_l19Own xs0 t0 _ F 0 _ f0d f1d hruD hxl).mono ?_; rintro e w7 ⟨u, rfl, hou, hb7⟩
        have hb7' := below_drew hb7
        have hou' : OwnI1 wo.heap.size w7 u xs0 := hou
        have hs7 : wo.heap.size ≤ w7.heap.size := hb7'.size
        have TB7 := TB.below hb7'
        have FB7 := FB.below hb7'
        have RB7 := RB.below hb7'
        have S7 := SR.below hb7'
        have U7 := UR.trans (Upd.of_below (lo := g) (hi := g + 1) hb7')
        have hru7 := hru.out.below hb7'
        have hY2' := hY2.below hb7'
        have hY3' : ∀ i, i < Z.length → (Y.getD i qZ).2 = (Z.getD i pZ).2 ∧ RdI w7 (Y.getD i qZ).1 (Z.getD i pZ).1 ∧ ∀ b, (Y.getD i qZ).1.ownBlock = some b → (F + 1 ≤ b ∧ b < wo.heap.size) ∧ Value.ownBlock (.slice av LZ cv) ≠ some b := fun i hi => by
          obtain ⟨k1, k2, k3⟩ := hY3 i hi
          exact ⟨k1, k2.below hb7', k3⟩
        obtain ⟨au, cu, rfl, -, -⟩ := hou'.rd
        have co7 := TB7.c1
        clear cod f0d f1d hruD TB FB RB SR UR hru
        
        refine hK.out _ _ ⟨(fun _ => co7), (fun _ => True.intro)⟩ (fun hHeld => ?_); clear hK K; (try simp only [Act.put, List.getElem_toArray, List.getElem_cons_zero, List.getElem_cons_succ, List.setIfInBounds_toArray, List.set_cons_zero, List.set_cons_succ])
        refine wpAnyL_ready (rs := [3]) (by kernel_rfl) (by simp) ?_; refine AllReadyL.cons (i := 3) rfl (fun K hK => ?_) AllReadyL.nil
        go_simp
        have hb8 : Below w7.heap.size w7 (w7.alloc (Obj.cells #[.slice au xs0.length cu, .int .i64 t0] 70)) := (Below.refl _ _).al _
        have co8 := keepc hb8 co7
        
        refine hK.out _ _ ⟨(fun _ => co8), (fun _ => True.intro)⟩ (fun hHeld => ?_); clear hK K; (try simp only [Act.put, List.getElem_toArray, List.getElem_cons_zero, List.getElem_cons_succ, List.setIfInBounds_toArray, List.set_cons_zero, List.set_cons_succ])
        refine wpAnyL_ready (rs := [4]) (by kernel_rfl) (by simp) ?_; refine AllReadyL.cons (i := 4) rfl (fun K hK => ?_) AllReadyL.nil
        refine step_push_row (row := rowQ) rfl _ _ _ _ rfl Tryz.underlying32 (.agg #[.slice none 0 0, .int .i64 0]) 32 infoQ rfl (by decide) (by decide) rowQ_len (F + 1) wo.heap.size w7.heap.size (.slice av LZ cv) Y (.slice au xs0.length cu, t0) #[.slice au xs0.length cu, .int .i64 t0] _ rfl (fun u hu => by simp only [rowQ, List.mem_cons, List.not_mem_nil, or_false] at hu; rcases hu with rfl | rfl <;> rfl) rfl rfl (heap_alloc_new w7 _) (hY2'.al _) (by omega) (by have := hb8.size; omega) ?_
        intro v' w' ho' hg' hat' hs'
        have hDn := DrwP.snoc hY1 hY3' (fun b e => hY2'.2 b e) ho' hb8 hg' hat' hou'.rd (fun b e => by have h1 := OwnI.gt hou' b e; have h2 := (World.ownsRow.lt hou' b e).2; omega) (by omega) (by omega)
        have hlv : ∀ n, Value.ownBlock (.slice av LZ cv) = some n → F + 1 ≤ n := fun n e => (World.ownsRow.lt hY2'.1 n e).1
        have TB' := (TB7.below hb8).grown hg' (fun e => by have := hlv G e; omega)
        have FB' := (FB7.below hb8).grown hg' (fun e => by have := hlv F e; omega)
        have RB' := (RB7.below hb8).grown hg' (fun e => by have := hlv _ e; omega)
        have S' := (S7.below hb8).grown hg' (fun n e => by have := hlv n e; omega)
        have U' := updFresh' (U7.trans (Upd.of_below hb8)) hg' (fun n e => by have := hlv n e; omega)
        have hru' : RdI w' (.slice a0 xs0.length c0') xs0 := by
          obtain ⟨ad, cap, he, hl, hc⟩ := hru7.below hb8
          refine ⟨ad, cap, he, hl, fun j hj => ?_⟩
          obtain ⟨bl, off, ha, hcell⟩ := hc j hj
          have hbl := hub0 bl (by rw [he, ha]; rfl)
          exact ⟨bl, off, ha, grown_c hg' hcell (fun e => by have := hlv bl e; omega)⟩
        obtain ⟨a9, c9, hv9, -⟩ := hDn.rd
        obtain ⟨L9, hL9⟩ : ∃ L9, (Z ++ [(xs0, t0)]).length = L9 := ⟨_, rfl⟩
        rw [hL9] at hv9
        subst hv9
        obtain ⟨TZ, gz⟩ := TB'.set1 (.slice a9 L9 c9)
        have FZ := FB'.grown gz (by simp only [ne_eq, Option.some.injEq]; omega)
        have RZ := RB'.grown gz (by simp only [ne_eq, Option.some.injEq]; omega)
        have SZ := S'.grown gz (fun n e => by simp only [Option.some.injEq] at e; omega)
        have UZ := updNew U' gz (by omega)
        have DZ := (hDn.upd (Upd.of_grown (lo := G) (hi := G + 1) gz (fun k hk => by simp only [Option.some.injEq] at hk; omega)) (Or.inr (by omega))).wide (Nat.le_refl _) gz.size
        have hruZ := Lib.hid (rdI_updV hru' (Upd.of_grown (lo := G) (hi := G + 1) gz (fun k hk => by simp only [Option.some.injEq] at hk; omega)) (fun k e => by have := hub0 k e; omega))
        have b0 := TB'.c0
        have b1 := TB'.c1
        have bf1 := TB'.f1
        
        refine hK.out _ _ ⟨(fun h => Bool.noConfusion (show true = false from h)), (fun _ => True.intro)⟩ (fun hHeld => ?_); clear hK K; (try simp only [Act.put, List.getElem_toArray, List.getElem_cons_zero, List.getElem_cons_succ, List.setIfInBounds_toArray, List.set_cons_zero, List.set_cons_succ])
        
        (refine wpAnyL_take (S0 := (fun _ => True)) (i := 5) (q := 6) (v := ?lv22) rfl rfl (by kernel_rfl) (by kernel_rfl) (by kernel_rfl) (by kernel_rfl) (by kernel_rfl) (fun _ _ _ h => h) (fun _ _ _ _ => True.intro) (untilL_set (by decide) (by decide)) (Or.inl ⟨by rfl, ?lhy22⟩) ⟨(fun h => Bool.noConfusion (show true = false from h)), fun _ => True.intro⟩ ?lrest22; case lhy22 => (intro w hSw; (try dsimp only at hSw); go_simp; (try with_reducible rfl)); (try simp only [Act.put, List.getElem_toArray, List.getElem_cons_zero, List.getElem_cons_succ, List.setIfInBounds_toArray, List.set_cons_zero, List.set_cons_succ]))
        refine wpAnyL_ready (rs := [6]) (by kernel_rfl) (by simp) ?_; refine AllReadyL.cons (i := 6) rfl (fun K hK => ?_) AllReadyL.nil
        go_simp
        refine hK.out _ _ ⟨(fun h => Bool.noConfusion (show true = false from h)), (fun h => Bool.noConfusion (show true = false from h))⟩ (fun hHeld => ?_); clear hK K; (try simp only [Act.put, List.getElem_toArray, List.getElem_cons_zero, List.getElem_cons_succ, List.setIfInBounds_toArray, List.set_cons_zero, List.set_cons_succ])
        refine wpAnyL_done (by kernel_rfl) ?_ _; refine NoPanic.normal ?_
        clear b0 b1 bf1
        generalize w'.setCell ⟨G, 1, none⟩ (.slice a9 L9 c9) = wz at *
        go_wp2
        go_roundw
        case rel => exact ⟨j - 1, _, Z ++ [(xs0, t0)], by omega, by rw [show ((j - 1 : Nat) : Int) = (j : Int) - 1 by omega], by simp; omega, TZ, FZ, RZ, DZ, hruZ, SZ, UZ, Lib.hid (fun p hp => by rcases List.mem_append.1 hp with hp | hp; exact HZB.out p hp; rw [List.mem_singleton.1 hp]; exact HXL.out)⟩
        case measure => simp [intOf]; omega
      · skip
        have t0 := TB.c0
        have t1 := TB.c1
        have r0 := RB.c0
        have r1 := RB.c1
        have rf0 := RB.f0
        have rf1 := RB.f1
        obtain ⟨TZ, gz⟩ := RB.set (.int .i64 H) (.slice av LZ cv)
        have SZ := SR.grown gz (fun n e => by simp only [Option.some.injEq] at e; omega)
        have UZ := updNew UR gz (Nat.le_refl _)
        have DZ := (hD.upd (Upd.of_grown (lo := w.heap.size) (hi := w.heap.size + 1) gz (fun k hk => by simp only [Option.some.injEq] at hk; omega)) (Or.inr (by omega)))
        go_wp2
        have X0 := TZ.c0
        have X1 := TZ.c1
        exact bodyPost_ret (v := .agg #[.int .i64 H, (.slice av LZ cv)]) (by simp [results, Tryz.results43, go_sem, X0, X1]) rfl ⟨_, Z, H, k6, rfl, DZ.wide (by omega) (by have h1 := gz.size; have h2 := TB.lt; omega), by omega, SZ, UZ, HZB.out⟩
  have t0 := T3.c0
  have t1 := T3.c1
  have r0 := R3.c0
  have r1 := R3.c1
  have rf0 := R3.f0
  have rf1 := R3.f1
  obtain ⟨TZ, gz⟩ := R3.set (.int .i64 H) (.slice (some ⟨b, 0, none⟩) n c)
  have SZ := S3.grown gz (fun n e => by simp only [Option.some.injEq] at e; omega)
  have UZ := updNew U3 gz (Nat.le_refl _)
  have DZ := (D3.upd (Upd.of_grown (lo := w.heap.size) (hi := w.heap.size + 1) gz (fun k hk => by simp only [Option.some.injEq] at hk; omega)) (Or.inr (by omega)))
  go_wp2
  have X0 := TZ.c0
  have X1 := TZ.c1
  exact bodyPost_ret (v := .agg #[.int .i64 H, (.slice (some ⟨b, 0, none⟩) n c)]) (by simp [results, Tryz.results43, go_sem, X0, X1]) rfl ⟨_, X, H, k3, rfl, DZ.wide (by omega) (by have h1 := gz.size; have h2 := T3.lt; omega), by omega, SZ, UZ, HX3.out⟩
theorem c_spec_l19Bent (W0 : World) (g k : Nat) (bs : List Int) (w : World) (h : Src W0 g bs k w) (hk : k < 400000) :
    Calls Tryz.prog 43 #[.pointer (some ⟨g, 0, none⟩)] w fun e w' => ∃ (v : Value) (X : List Part2) (H : Int) (k' : Nat), e = .returned (.agg #[.int .i64 H, v]) ∧ DrwP w.heap.size w'.heap.size w' v X ∧ k' ≤ k + 6000 ∧ Src W0 g bs k' w' ∧ Upd g (g + 1) w w' :=
  (c_spec_l19BentB W0 g k bs w h hk).mono fun _ _ ⟨v, X, H, k', h1, h2, h3, h4, h5, _⟩ => ⟨v, X, H, k', h1, h2, h3, h4, h5⟩
end Go.Proofs.YtioemkdapoombaaGreatDoor
