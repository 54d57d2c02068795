/- Facts kept from world to world: cells, marks of frozen cells. No program. -/
import Derived.Test.YtgcmnpimkfmccaaDoorMemR
import Derived.Test.YtgcmnpimkfmccaaDoorLawI
namespace Go.Proofs.YtgcmnpimkfmccaaDoor
open Go.ChangeShapes Go.WideShapes Go.ChangeAt Go.RowKit
set_option linter.unusedVariables false
/-- where an arm of the walk is to stop, so that the next step can be taken in the open -/
def Stopped (p : Prop) : Prop := p
theorem stop_of {p : Prop} (h : Stopped p) : p := h
theorem keepc {a b : World} (hb : Below a.heap.size a b) {bl o : Nat} {v : Value} (k : a.cell? ⟨bl, o, none⟩ = some v) : b.cell? ⟨bl, o, none⟩ = some v :=
  (hb.cell (p := ⟨bl, o, none⟩) (World.block_lt_of_cell? a _ k)).trans k
theorem twoStates (w : World) (T : TypeId) (h m h2 m2 : Int) : ∃ W0, W0 = (w.alloc (Obj.cells #[Value.int IntKind.i64 h, Value.int IntKind.i64 m] T)).alloc (Obj.cells #[Value.int IntKind.i64 h2, Value.int IntKind.i64 m2] T) ∧
    W0.cell? ⟨w.heap.size, 0, none⟩ = some (.int .i64 h) ∧ W0.cell? ⟨w.heap.size, 1, none⟩ = some (.int .i64 m) ∧ W0.cell? ⟨w.heap.size + 1, 0, none⟩ = some (.int .i64 h2) ∧ W0.cell? ⟨w.heap.size + 1, 1, none⟩ = some (.int .i64 m2) ∧ Below w.heap.size w W0 := by
  refine ⟨_, rfl, ?_, ?_, ?_, ?_, ((Below.refl _ _).al _).al _⟩ <;> go_simp
theorem oneState (w : World) (T : TypeId) (h m : Int) : ∃ W0, W0 = w.alloc (Obj.cells #[Value.int IntKind.i64 h, Value.int IntKind.i64 m] T) ∧
    W0.cell? ⟨w.heap.size, 0, none⟩ = some (.int .i64 h) ∧ W0.cell? ⟨w.heap.size, 1, none⟩ = some (.int .i64 m) ∧ Below w.heap.size w W0 := by
  refine ⟨_, rfl, ?_, ?_, (Below.refl _ _).al _⟩ <;> go_simp
theorem frozenc {a b : World} (hb : Below a.heap.size a b) {bl o : Nat} {v : Value} (k : a.cell? ⟨bl, o, none⟩ = some v) (hf : a.frozen? ⟨bl, o, none⟩ = false) : b.frozen? ⟨bl, o, none⟩ = false :=
  (World.frozen?_of_block (w := a) (hb.block bl (World.block_lt_of_cell? a _ k))).trans hf
theorem grown_c {a b : World} {r : Option Nat} (hg : a.grownBy b r) {bl o : Nat} {v : Value} (k : a.cell? ⟨bl, o, none⟩ = some v) (hr : r ≠ some bl) : b.cell? ⟨bl, o, none⟩ = some v :=
  (World.cell?_of_block (w := a) (hg.block bl (World.block_lt_of_cell? a _ k) (fun e => hr e.symm))).trans k
theorem grown_f {a b : World} {r : Option Nat} (hg : a.grownBy b r) {bl o : Nat} {v : Value} (k : a.cell? ⟨bl, o, none⟩ = some v) (hf : a.frozen? ⟨bl, o, none⟩ = false) (hr : r ≠ some bl) : b.frozen? ⟨bl, o, none⟩ = false :=
  (World.frozen?_of_block (w := a) (hg.block bl (World.block_lt_of_cell? a _ k) (fun e => hr e.symm))).trans hf
theorem al_c {a : World} (ob : Obj) {bl o : Nat} {v : Value} (k : a.cell? ⟨bl, o, none⟩ = some v) : (a.alloc ob).cell? ⟨bl, o, none⟩ = some v := keepc ((Below.refl _ _).al ob) k
theorem al_f {a : World} (ob : Obj) {bl o : Nat} {v : Value} (k : a.cell? ⟨bl, o, none⟩ = some v) (hf : a.frozen? ⟨bl, o, none⟩ = false) : (a.alloc ob).frozen? ⟨bl, o, none⟩ = false := frozenc ((Below.refl _ _).al ob) k hf
/-- two cells of a block written -/
theorem set2 (W : World) (g : Nat) (a b u0 u1 : Value) (k0 : W.cell? ⟨g, 0, none⟩ = some u0) (k1 : W.cell? ⟨g, 1, none⟩ = some u1) :
    ((W.setCell ⟨g, 0, none⟩ a).setCell ⟨g, 1, none⟩ b).cell? ⟨g, 0, none⟩ = some a ∧ ((W.setCell ⟨g, 0, none⟩ a).setCell ⟨g, 1, none⟩ b).cell? ⟨g, 1, none⟩ = some b ∧
    (∀ p, ((W.setCell ⟨g, 0, none⟩ a).setCell ⟨g, 1, none⟩ b).frozen? p = W.frozen? p) ∧ W.grownBy ((W.setCell ⟨g, 0, none⟩ a).setCell ⟨g, 1, none⟩ b) (some g) := by
  have hin : ∀ i, i < [a, b].length → (W.cell? ⟨g, 0 + i, none⟩).isSome = true := fun i hi => by
    simp only [List.length_cons, List.length_nil] at hi
    rw [Nat.zero_add]
    have : i = 0 ∨ i = 1 := by omega
    rcases this with rfl | rfl
    · rw [k0]; rfl
    · rw [k1]; rfl
  exact ⟨World.cell?_setCells_in g [a, b] 0 W hin 0 (by simp), World.cell?_setCells_in g [a, b] 0 W hin 1 (by simp), fun p => frozen_setCells g p [a, b] 0 W, grownBy_setCells W g [a, b] 0⟩
end Go.Proofs.YtgcmnpimkfmccaaDoor
