/- MemC, OwnC: laid one behind the other. -/
import Derived.Test.YtjokodlappeapaaGreatDoorMemR
import Derived.Test.YtjokodlappeapaaGreatDoorKeep
section
set_option linter.unusedVariables false
namespace Go.Proofs.YtjokodlappeapaaGreatDoor
open Go.ChangeShapes Go.WideShapes Go.ChangeAt Go.RowKit
def CellsAt (w : World) (g m : Nat) : Prop := ∀ i, i < m → (∃ u, w.cell? ⟨g, i, none⟩ = some u) ∧ w.frozen? ⟨g, i, none⟩ = false
def FilledTo {α : Type} (sz : Nat) (row : α → List Value) (w : World) (g : Nat) (xs : List α) (k : Nat) : Prop := ∀ i (hi : i < xs.length), i < k → ∀ c u, (row xs[i])[c]? = some u → w.cell? ⟨g, i * sz + c, none⟩ = some u
theorem CellsAt.below {a b : World} {g m : Nat} (h : CellsAt a g m) (hb : Below a.heap.size a b) : CellsAt b g m := fun i hi => by
  obtain ⟨⟨u, hu⟩, hf⟩ := h i hi
  exact ⟨⟨u, keepc hb hu⟩, frozenc hb hu hf⟩
theorem FilledTo.below {α : Type} {sz : Nat} {row : α → List Value} {a b : World} {g : Nat} {xs : List α} {k : Nat} (h : FilledTo sz row a g xs k) (hb : Below a.heap.size a b) : FilledTo sz row b g xs k := fun i hi hk c u hu => keepc hb (h i hi hk c u hu)
theorem fill_step {α : Type} {sz : Nat} {row : α → List Value} {w : World} {g : Nat} {xs : List α} {k : Nat} (hrow : ∀ x, (row x).length = sz) (hC : CellsAt w g (xs.length * sz)) (hF : FilledTo sz row w g xs k) (hk : k < xs.length) (W : World) (hW : W = w.setCells g (k * sz) (row xs[k])) :
    CellsAt W g (xs.length * sz) ∧ FilledTo sz row W g xs (k + 1) ∧ w.grownBy W (some g) := by
  subst hW
  have hle : (k + 1) * sz ≤ xs.length * sz := Nat.mul_le_mul_right _ hk
  rw [Nat.succ_mul] at hle
  have hin : ∀ j, j < (row xs[k]).length → (w.cell? ⟨g, k * sz + j, none⟩).isSome = true := fun j hj => by
    rw [hrow] at hj
    obtain ⟨⟨u, hu⟩, _⟩ := hC (k * sz + j) (by omega)
    rw [hu]; rfl
  refine ⟨fun i hi => ⟨?_, ?_⟩, fun i hi hik c u hu => ?_, grownBy_setCells w g _ _⟩
  · by_cases h : k * sz ≤ i ∧ i < k * sz + sz
    · have h1 := World.cell?_setCells_in g (row xs[k]) (k * sz) w hin (i - k * sz) (by rw [hrow]; omega)
      rw [show k * sz + (i - k * sz) = i by omega] at h1
      exact ⟨_, h1⟩
    · obtain ⟨⟨u, hu⟩, _⟩ := hC i hi
      refine ⟨u, (World.cell?_setCells_out g (row xs[k]) (k * sz) w _ (fun _ _ => ?_)).trans hu⟩
      rw [hrow]
      show i < k * sz ∨ k * sz + sz ≤ i
      omega
  · rw [frozen_setCells]; exact (hC i hi).2
  · have hc : c < sz := by
      have h := (List.getElem?_eq_some_iff.1 hu).1
      rw [hrow] at h; exact h
    by_cases hik2 : i = k
    · subst hik2
      have h1 := World.cell?_setCells_in g (row xs[i]) (i * sz) w hin c (by rw [hrow]; exact hc)
      rw [h1]
      obtain ⟨h2, h3⟩ := List.getElem?_eq_some_iff.1 hu
      rw [h3]
    · have hlt : (i + 1) * sz ≤ k * sz := Nat.mul_le_mul_right _ (by omega)
      rw [Nat.succ_mul] at hlt
      refine (World.cell?_setCells_out g (row xs[k]) (k * sz) w _ (fun _ _ => ?_)).trans (hF i hi (by omega) c u hu)
      left
      show i * sz + c < k * sz
      omega
theorem FilledTo.rd {α : Type} {sz : Nat} {row : α → List Value} {w : World} {g cap : Nat} {xs : List α} (h : FilledTo sz row w g xs xs.length) (hl : xs.length ≤ 9223372036854775807) : RdRow sz row w (.slice (some ⟨g, 0, none⟩) xs.length cap) xs :=
  ⟨_, _, rfl, hl, fun k hk => ⟨g, 0, rfl, fun c u hu => by rw [Nat.zero_add]; exact h k hk hk c u hu⟩⟩
theorem make_cells {P : Program} {ops : Array Oper} {rest : List Oper} {o : Oper} {a : Act} {Q : Exit → Act → World → Prop} (hgd : o.guard = none) (x y : Operand) (t e : TypeId)
    (ho : o.op = .makeSlice t x y) (ht : P.underlying t = some (.slice e)) (z : Value) (sz by' : Nat) (hinfo : (P.info? e).map (fun i => (i.zero, i.size, i.bytes)) = some (some z, sz, by')) (hby : by' ≤ 1000)
    (B : Nat) (w0 : World) (kx ky : IntKind) (L C : Int) (n : Nat) (hx : a.eval x = .int kx L) (hy : a.eval y = .int ky C) (hL : L = (n : Int)) (hC : C = (n : Int)) (hn : n ≤ 1000000000) (hB : B ≤ w0.heap.size)
    (h : ∀ w', CellsAt w' w0.heap.size (n * sz) → (∀ A, Below B A w0 → Below B A w') → w0.heap.size < w'.heap.size → wpList P ops Q rest (a.put o.dst (.slice (some ⟨w0.heap.size, 0, none⟩) n n)) w') :
    wpList P ops Q (o :: rest) a w0 := by
  obtain ⟨i0, hi, hz0, hz1, hz2⟩ := info_parts hinfo
  have hb2 : i0.bytes * n ≤ 1000 * 1000000000 := Nat.mul_le_mul (by omega) hn
  refine wpList_make_full w0 hgd x y t ho B e i0 z sz ht hi hz0 hz1 kx ky L C n hx hy hL hC (by omega) (by unfold maxLen; omega) hB fun w' ho' hg => ?_
  refine h w' ?_ (fun A hA => hA.grown hg hB (fun k hk => by cases hk)) (World.ownsRow.lt ho' _ rfl).2
  intro k hk
  refine ⟨?_, World.ownsRow.frozenAt ho' k⟩
  rw [World.ownsRow.cellAt ho' k hk]
  have hl : k < (madeCells z.cells (n * sz)).toList.length := by rw [Array.length_toList, size_madeCells]; exact hk
  exact ⟨_, List.getElem?_eq_getElem hl⟩
end Go.Proofs.YtjokodlappeapaaGreatDoor
end
section
set_option linter.unusedVariables false
namespace Go.Proofs.YtjokodlappeapaaGreatDoor
open Go.ChangeShapes Go.WideShapes Go.ChangeAt Go.RowKit
/-- a made slice of the call's own, with some cells -/
def OwnC (E : TypeId) (sz lo : Nat) (w : World) (g n : Nat) : Prop := ∃ cs, w.ownsRow lo E sz (.slice (some ⟨g, 0, none⟩) n n) n cs
theorem OwnC.below {E : TypeId} {sz lo g n : Nat} {a b : World} (h : OwnC E sz lo a g n) (hb : Below a.heap.size a b) : OwnC E sz lo b g n := by
  obtain ⟨cs, h⟩ := h
  exact ⟨cs, owns_below h hb⟩
theorem OwnC.set {E : TypeId} {sz lo g n : Nat} {a : World} (h : OwnC E sz lo a g n) (g' j : Nat) (u : Value) : OwnC E sz lo (a.setCell ⟨g', j, none⟩ u) g n := by
  obtain ⟨cs, h⟩ := h
  by_cases hg : g' = g
  · subst hg
    exact ⟨_, (World.ownsRow.stored h j u).1⟩
  · exact ⟨cs, owns_block h fun k hk => by
      simp only [Value.ownBlock, Option.some.injEq] at hk
      exact heap_setCell_other a ⟨g', j, none⟩ k u (fun e => hg (by rw [hk]; exact e.symm))⟩
/-- all cells are laid: a row of the call's own -/
theorem OwnC.fin {α : Type} {E : TypeId} {sz lo g n : Nat} {w : World} {row : α → List Value} {xs : List α} (h : OwnC E sz lo w g n) (hrow : ∀ x, (row x).length = sz) (hsz : 0 < sz) (hl : xs.length = n)
    (hF : ∀ i (hi : i < xs.length), ∀ c u, (row xs[i])[c]? = some u → w.cell? ⟨g, i * sz + c, none⟩ = some u) : OwnRow E sz row lo w.heap.size w (.slice (some ⟨g, 0, none⟩) n n) xs := by
  obtain ⟨cs, h⟩ := h
  have hcl := h.1
  have e : cs = xs.flatMap row := by
    apply List.ext_getElem?
    intro i
    by_cases hi : i < n * sz
    · rw [← World.ownsRow.cellAt h i hi]
      have hk : i / sz < xs.length := Nat.div_lt_of_lt_mul (by rw [hl, Nat.mul_comm]; exact hi)
      have hc : i % sz < sz := Nat.mod_lt _ hsz
      have hjj : i / sz * sz + i % sz = i := by rw [Nat.mul_comm]; exact Nat.div_add_mod i sz
      have hg := flat_get hrow xs (i / sz) (i % sz) hk hc
      rw [hjj] at hg
      rw [hg]
      have hlt : i % sz < (row xs[i / sz]).length := by rw [hrow]; exact hc
      have h2 := hF (i / sz) hk (i % sz) _ (List.getElem?_eq_getElem hlt)
      rw [hjj] at h2
      rw [h2, List.getElem?_eq_getElem hlt]
    · rw [List.getElem?_eq_none (by omega), List.getElem?_eq_none (by rw [flat_len hrow, hl]; omega)]
  subst e
  subst hl
  exact OwnRow.tight (hi := g + 1) ⟨h, fun k hk => by simp only [Value.ownBlock, Option.some.injEq] at hk; omega⟩
theorem make_cellsO {P : Program} {ops : Array Oper} {rest : List Oper} {o : Oper} {a : Act} {Q : Exit → Act → World → Prop} (hgd : o.guard = none) (x y : Operand) (t e : TypeId)
    (ho : o.op = .makeSlice t x y) (ht : P.underlying t = some (.slice e)) (z : Value) (sz by' : Nat) (hinfo : (P.info? e).map (fun i => (i.zero, i.size, i.bytes)) = some (some z, sz, by')) (hby : by' ≤ 1000)
    (B : Nat) (w0 : World) (kx ky : IntKind) (L C : Int) (n : Nat) (hx : a.eval x = .int kx L) (hy : a.eval y = .int ky C) (hL : L = (n : Int)) (hC : C = (n : Int)) (hn : n ≤ 1000000000) (hB : B ≤ w0.heap.size)
    (h : ∀ w', CellsAt w' w0.heap.size (n * sz) → OwnC e sz B w' w0.heap.size n → (∀ A, Below B A w0 → Below B A w') → w0.heap.size < w'.heap.size → wpList P ops Q rest (a.put o.dst (.slice (some ⟨w0.heap.size, 0, none⟩) n n)) w') :
    wpList P ops Q (o :: rest) a w0 := by
  obtain ⟨i0, hi, hz0, hz1, hz2⟩ := info_parts hinfo
  have hb2 : i0.bytes * n ≤ 1000 * 1000000000 := Nat.mul_le_mul (by omega) hn
  refine wpList_make_full w0 hgd x y t ho B e i0 z sz ht hi hz0 hz1 kx ky L C n hx hy hL hC (by omega) (by unfold maxLen; omega) hB fun w' ho' hg => ?_
  refine h w' ?_ ⟨_, ho'⟩ (fun A hA => hA.grown hg hB (fun k hk => by cases hk)) (World.ownsRow.lt ho' _ rfl).2
  intro k hk
  refine ⟨?_, World.ownsRow.frozenAt ho' k⟩
  rw [World.ownsRow.cellAt ho' k hk]
  have hl : k < (madeCells z.cells (n * sz)).toList.length := by rw [Array.length_toList, size_madeCells]; exact hk
  exact ⟨_, List.getElem?_eq_getElem hl⟩
end Go.Proofs.YtjokodlappeapaaGreatDoor
end
