/- The law OrdersX: what it rests on, part 7 of 48. -/
import Derived.Test.YtgcmnpimkfmccaaQOrdersX02
import Derived.Test.YtgcmnpimkfmccaaQOrdersX04
namespace Go.Proofs.Ytgcmnpimkfmccaa
open Go.ChangeShapes Go.WideShapes Go.ChangeAt Go.RowKit
set_option linter.unusedVariables false
/-- n bools in the cells of block g -/
def BoolsAt (w : World) (g n : Nat) (f : Nat → Bool) : Prop := ∀ k, k < n → w.cell? ⟨g, k, none⟩ = some (.bool (f k)) ∧ w.frozen? ⟨g, k, none⟩ = false
theorem BoolsAt.below {a b : World} {g n : Nat} {f : Nat → Bool} (h : BoolsAt a g n f) (hb : Below a.heap.size a b) : BoolsAt b g n f := fun k hk => ⟨keepc hb (h k hk).1, frozenc hb (h k hk).1 (h k hk).2⟩
theorem grown_c1 (a : World) (g j k : Nat) (u : Value) (h : j ≠ k) : (a.setCell ⟨g, j, none⟩ u).cell? ⟨g, k, none⟩ = a.cell? ⟨g, k, none⟩ := by
  apply World.cell?_setCell_other
  intro e
  cases e
  exact h rfl
theorem BoolsAt.store {a : World} {g n : Nat} {f : Nat → Bool} (h : BoolsAt a g n f) (j : Nat) (hj : j < n) (u : Bool) : BoolsAt (a.setCell ⟨g, j, none⟩ (.bool u)) g n (fun k => if k = j then u else f k) := fun k hk => by
  refine ⟨?_, by rw [World.frozen?_setCell]; exact (h k hk).2⟩
  by_cases e : k = j
  · subst e
    have e2 := World.cell?_setCell_same (v := .bool u) a _ (h k hk).1
    simp only [if_true]; exact e2
  · simp only [if_neg e]
    exact (grown_c1 a g j k _ (fun e2 => e e2.symm)).trans (h k hk).1
theorem make_bool {P : Program} {ops : Array Oper} {rest : List Oper} {o : Oper} {a : Act} {Q : Exit → Act → World → Prop} (hgd : o.guard = none) (x y : Operand) (t e : TypeId)
    (ho : o.op = .makeSlice t x y) (ht : P.underlying t = some (.slice e)) (hinfo : (P.info? e).map (fun i => (i.zero, i.size, i.bytes)) = some (some (.bool false), 1, 1))
    (B : Nat) (w0 : World) (kx ky : IntKind) (L C : Int) (n : Nat) (hx : a.eval x = .int kx L) (hy : a.eval y = .int ky C) (hL : L = (n : Int)) (hC : C = (n : Int)) (hn : n ≤ 1000000000) (hB : B ≤ w0.heap.size)
    (h : ∀ w', BoolsAt w' w0.heap.size n (fun _ => false) → (∀ A, Below B A w0 → Below B A w') → w0.heap.size < w'.heap.size → wpList P ops Q rest (a.put o.dst (.slice (some ⟨w0.heap.size, 0, none⟩) n n)) w') :
    wpList P ops Q (o :: rest) a w0 := by
  obtain ⟨i0, hi, hz0, hz1, hz2⟩ := info_parts hinfo
  refine wpList_make_full w0 hgd x y t ho B e i0 (.bool false) 1 ht hi hz0 hz1 kx ky L C n hx hy hL hC (by rw [hz2]; omega) (by unfold maxLen; omega) hB fun w' ho' hg => ?_
  refine h w' ?_ (fun A hA => hA.grown hg hB (fun k hk => by cases hk)) (World.ownsRow.lt ho' _ rfl).2
  have e1 : (madeCells (Value.cells (.bool false)) (n * 1)).toList = List.replicate n (.bool false) := by
    rw [Nat.mul_one]
    simp [Value.cells, toList_madeCells_one]
  rw [e1] at ho'
  intro k hk
  refine ⟨?_, World.ownsRow.frozenAt ho' k⟩
  rw [World.ownsRow.cellAt ho' k (by omega)]
  simp [hk]
end Go.Proofs.Ytgcmnpimkfmccaa
