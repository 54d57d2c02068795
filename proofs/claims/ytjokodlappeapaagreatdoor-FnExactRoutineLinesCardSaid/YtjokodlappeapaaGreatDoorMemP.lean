/- A slice of parts (a slice of int64 and an int64 each): read, and of the call's own. No program. -/
import Derived.Test.YtjokodlappeapaaGreatDoorMemC
import Derived.Test.YtjokodlappeapaaGreatDoorMemR
import Derived.Deep.RegionHeld
namespace Go.Proofs.YtjokodlappeapaaGreatDoor
open Go.ChangeShapes Go.WideShapes Go.ChangeAt Go.RowKit
set_option linter.unusedVariables false
abbrev Part2 := List Int × Int
def RdP (w : World) (v : Value) (X : List Part2) : Prop :=
  ∃ a cap, v = .slice a X.length cap ∧ X.length ≤ 9223372036854775807 ∧ ∀ k (hk : k < X.length), ∃ b off u, a = some ⟨b, off, none⟩ ∧ w.cell? ⟨b, off + k * 2, none⟩ = some u ∧ w.cell? ⟨b, off + k * 2 + 1, none⟩ = some (.int .i64 X[k].2) ∧ RdI w u X[k].1
theorem RdP.below {a b : World} {v : Value} {X : List Part2} (h : RdP a v X) (hb : Below a.heap.size a b) : RdP b v X := by
  obtain ⟨ad, cap, hv, hl, hc⟩ := h
  refine ⟨ad, cap, hv, hl, fun k hk => ?_⟩
  obtain ⟨bl, off, u, ha, h0, h1, hu⟩ := hc k hk
  exact ⟨bl, off, u, ha, keepc hb h0, keepc hb h1, hu.below hb⟩
/-- n parts in block g, their patterns in blocks of their own above it -/
structure OwnP (E : TypeId) (lo : Nat) (w : World) (g : Nat) (X : List Part2) (n k : Nat) (U : Nat → Value) : Prop where
  hlo : lo ≤ g
  cells : CellsAt w g (n * 2)
  get : ∀ i (hi : i < X.length), i < k → w.cell? ⟨g, i * 2, none⟩ = some (U i) ∧ w.cell? ⟨g, i * 2 + 1, none⟩ = some (.int .i64 X[i].2) ∧ OwnI E (g + 1) w (U i) X[i].1
  dis : ∀ i j, i < j → j < k → ∀ b, (U i).ownBlock = some b → (U j).ownBlock ≠ some b
theorem OwnP.below {E : TypeId} {lo : Nat} {a b : World} {g n k : Nat} {X : List Part2} {U : Nat → Value} (h : OwnP E lo a g X n k U) (hb : Below a.heap.size a b) : OwnP E lo b g X n k U :=
  ⟨h.hlo, h.cells.below hb, fun i hi hk => by obtain ⟨h1, h2, h3⟩ := h.get i hi hk; exact ⟨keepc hb h1, keepc hb h2, h3.below hb⟩, h.dis⟩
theorem OwnP.setBelow {E : TypeId} {lo : Nat} {w : World} {g n k : Nat} {X : List Part2} {U : Nat → Value} (h : OwnP E lo w g X n k U) {p : Addr} (hp : p.block < lo) (u : Value) : OwnP E lo (w.setCell p u) g X n k U := by
  have hg := h.hlo
  have hne : p.block ≠ g := by omega
  refine ⟨h.hlo, fun i hi => ⟨?_, by rw [World.frozen?_setCell]; exact (h.cells i hi).2⟩, fun i hi hk => ?_, h.dis⟩
  · obtain ⟨v, hv⟩ := (h.cells i hi).1
    exact ⟨v, (World.cell?_setCell_far _ _ _ _ hne).trans hv⟩
  · obtain ⟨h1, h2, h3⟩ := h.get i hi hk
    exact ⟨(World.cell?_setCell_far _ _ _ _ hne).trans h1, (World.cell?_setCell_far _ _ _ _ hne).trans h2, h3.setBelow (by omega) u⟩
theorem OwnP.low {E : TypeId} {lo lo' : Nat} {w : World} {g n k : Nat} {X : List Part2} {U : Nat → Value} (h : OwnP E lo w g X n k U) (hl : lo' ≤ lo) : OwnP E lo' w g X n k U := ⟨Nat.le_trans hl h.hlo, h.cells, h.get, h.dis⟩
theorem OwnP.rd {E : TypeId} {lo : Nat} {w : World} {g cap : Nat} {X : List Part2} {U : Nat → Value} (h : OwnP E lo w g X X.length X.length U) (hl : X.length ≤ 9223372036854775807) : RdP w (.slice (some ⟨g, 0, none⟩) X.length cap) X :=
  ⟨_, _, rfl, hl, fun k hk => by
    obtain ⟨h1, h2, h3⟩ := h.get k hk hk
    exact ⟨g, 0, U k, rfl, by rw [Nat.zero_add]; exact h1, by rw [Nat.zero_add]; exact h2, h3.rd⟩⟩
theorem OwnP.step {E : TypeId} {lo : Nat} {w : World} {g k : Nat} {X : List Part2} {U : Nat → Value} (h : OwnP E lo w g X X.length k U) (hk : k < X.length) (u : Value) (m : Nat) (hown : OwnI E m w u X[k].1) (hm : g < m) (hU : ∀ i, i < k → ∀ b, (U i).ownBlock = some b → b < m) :
    OwnP E lo ((w.setCell ⟨g, k * 2, none⟩ u).setCell ⟨g, k * 2 + 1, none⟩ (.int .i64 X[k].2)) g X X.length (k + 1) (fun i => if i = k then u else U i) ∧ w.grownBy ((w.setCell ⟨g, k * 2, none⟩ u).setCell ⟨g, k * 2 + 1, none⟩ (.int .i64 X[k].2)) (some g) := by
  have hin : ∀ j, j < [u, Value.int .i64 X[k].2].length → (w.cell? ⟨g, k * 2 + j, none⟩).isSome = true := fun j hj => by
    simp only [List.length_cons, List.length_nil] at hj
    obtain ⟨⟨v, hv⟩, _⟩ := h.cells (k * 2 + j) (by omega)
    rw [hv]; rfl
  have c0 : ((w.setCell ⟨g, k * 2, none⟩ u).setCell ⟨g, k * 2 + 1, none⟩ (.int .i64 X[k].2)).cell? ⟨g, k * 2, none⟩ = some u := World.cell?_setCells_in g [u, .int .i64 X[k].2] (k * 2) w hin 0 (by simp)
  have c1 : ((w.setCell ⟨g, k * 2, none⟩ u).setCell ⟨g, k * 2 + 1, none⟩ (.int .i64 X[k].2)).cell? ⟨g, k * 2 + 1, none⟩ = some (.int .i64 X[k].2) := World.cell?_setCells_in g [u, .int .i64 X[k].2] (k * 2) w hin 1 (by simp)
  have cf : ∀ p, ((w.setCell ⟨g, k * 2, none⟩ u).setCell ⟨g, k * 2 + 1, none⟩ (.int .i64 X[k].2)).frozen? p = w.frozen? p := fun p => frozen_setCells g p [u, .int .i64 X[k].2] (k * 2) w
  have co : ∀ o, o < k * 2 ∨ k * 2 + 2 ≤ o → ((w.setCell ⟨g, k * 2, none⟩ u).setCell ⟨g, k * 2 + 1, none⟩ (.int .i64 X[k].2)).cell? ⟨g, o, none⟩ = w.cell? ⟨g, o, none⟩ := fun o ho => World.cell?_setCells_out g [u, .int .i64 X[k].2] (k * 2) w ⟨g, o, none⟩ (fun _ _ => ho)
  have hgr : w.grownBy ((w.setCell ⟨g, k * 2, none⟩ u).setCell ⟨g, k * 2 + 1, none⟩ (.int .i64 X[k].2)) (some g) := grownBy_setCells w g [u, .int .i64 X[k].2] (k * 2)
  have hrow : ∀ {B : Nat} {v : Value} {xs : List Int}, OwnI E B w v xs → g < B → OwnI E B ((w.setCell ⟨g, k * 2, none⟩ u).setCell ⟨g, k * 2 + 1, none⟩ (.int .i64 X[k].2)) v xs := fun ho hB => (ho.setBelow hB _).setBelow hB _
  refine ⟨⟨h.hlo, fun i hi => ⟨?_, by rw [cf]; exact (h.cells i hi).2⟩, fun i hi hik => ?_, fun i j hij hj b hb => ?_⟩, hgr⟩
  · by_cases e0 : i = k * 2
    · subst e0; exact ⟨_, c0⟩
    · by_cases e1 : i = k * 2 + 1
      · subst e1; exact ⟨_, c1⟩
      · rw [co i (by omega)]; exact (h.cells i hi).1
  · by_cases e : i = k
    · subst e
      simp only [if_true]
      exact ⟨c0, c1, (hrow hown hm).base (by omega)⟩
    · simp only [if_neg e]
      obtain ⟨h1, h2, h3⟩ := h.get i hi (by omega)
      exact ⟨by rw [co _ (by omega)]; exact h1, by rw [co _ (by omega)]; exact h2, hrow h3 (Nat.lt_succ_self g)⟩
  · have e1 : i ≠ k := by omega
    simp only [if_neg e1] at hb
    by_cases e2 : j = k
    · subst e2
      simp only [if_true]
      intro e3
      have h1 := hU i (by omega) b hb
      have h2 := (World.ownsRow.lt hown b e3).1
      omega
    · simp only [if_neg e2]
      exact h.dis i j hij (by omega) b hb
/-- all lengths of the patterns together -/
def sumP (X : List Part2) : Nat := (X.map fun p => p.1.length).sum
theorem sumP_snoc (X : List Part2) (k : Nat) (hk : k < X.length) : sumP (X.take (k + 1)) = sumP (X.take k) + X[k].1.length := by
  have e1 : X.take (k + 1) = X.take k ++ [X[k]] := by rw [List.take_add_one, List.getElem?_eq_getElem hk]; rfl
  unfold sumP
  rw [e1, List.map_append, List.sum_append]
  simp
theorem sumP_le (X : List Part2) (k : Nat) : sumP (X.take k) ≤ sumP X := by
  have h : sumP X = sumP (X.take k) + sumP (X.drop k) := by
    unfold sumP
    rw [← List.sum_append, ← List.map_append, List.take_append_drop]
  omega
theorem sumP_at (X : List Part2) (k : Nat) (hk : k < X.length) : X[k].1.length ≤ sumP X := by
  have h1 := sumP_snoc X k hk
  have h2 := sumP_le X (k + 1)
  omega
end Go.Proofs.YtjokodlappeapaaGreatDoor
