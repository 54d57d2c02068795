/- The law OrdersX: what it rests on, part 22 of 48. -/
import Derived.Test.YtgcmnpimkfmccaaQOrdersX10
import Derived.Test.YtgcmnpimkfmccaaQOrdersX21
import Derived.Test.YtgcmnpimkfmccaaQOrdersX02
import Derived.Test.YtgcmnpimkfmccaaQOrdersX04
import Derived.Deep.RegionHeld
section
namespace Go.Proofs.Ytgcmnpimkfmccaa
open Go.ChangeShapes Go.WideShapes Go.ChangeAt Go.RowKit
set_option linter.unusedVariables false
/-- a search's block and its rows 1 and 2, amid their making; R: the other fields -/
structure Bld (E : TypeId) (bo bu n : Nat) (W0 : World) (R : Nat → Value) (f : Nat → Bool) (w : World) (x1 x2 v1 v2 : Value) (L1 L2 : List Int) : Prop where
  bel : Below W0.heap.size W0 w
  c1 : w.cell? ⟨bo, 1, none⟩ = some x1
  c2 : w.cell? ⟨bo, 2, none⟩ = some x2
  cr : ∀ i, i < 7 → i ≠ 1 → i ≠ 2 → w.cell? ⟨bo, i, none⟩ = some (R i)
  fr : ∀ i, i < 7 → w.frozen? ⟨bo, i, none⟩ = false
  us : BoolsAt w bu n f
  o1 : OwnI E W0.heap.size w v1 L1
  o2 : OwnI E W0.heap.size w v2 L2
  d1 : ∀ k, v1.ownBlock = some k → k ≠ bo ∧ k ≠ bu ∧ v2.ownBlock ≠ some k
  d2 : ∀ k, v2.ownBlock = some k → k ≠ bo ∧ k ≠ bu
  hbo : W0.heap.size ≤ bo
  hbu : W0.heap.size ≤ bu
  ne : bo ≠ bu
section
variable {E : TypeId} {bo bu n : Nat} {W0 : World} {R : Nat → Value} {f : Nat → Bool} {w w' : World} {x1 x2 v1 v2 v' : Value} {L1 L2 L' : List Int}
theorem Bld.lbo (h : Bld E bo bu n W0 R f w x1 x2 v1 v2 L1 L2) : bo < w.heap.size := World.block_lt_of_cell? w _ h.c1
theorem Bld.below (h : Bld E bo bu n W0 R f w x1 x2 v1 v2 L1 L2) (hb : Below w.heap.size w w') : Bld E bo bu n W0 R f w' x1 x2 v1 v2 L1 L2 :=
  ⟨h.bel.tr hb, cellB hb h.c1, cellB hb h.c2, fun i hi h1 h2 => cellB hb (h.cr i hi h1 h2), fun i hi => (World.frozen?_of_block (w := w) (hb.block bo h.lbo)).trans (h.fr i hi), h.us.below hb, h.o1.below hb, h.o2.below hb, h.d1, h.d2, h.hbo, h.hbu, h.ne⟩
theorem Bld.grow1 (h : Bld E bo bu n W0 R f w x1 x2 v1 v2 L1 L2) (ho : OwnI E W0.heap.size w' v' L') (hg : w.grownBy w' v1.ownBlock) (hat : v'.ownBlock = v1.ownBlock ∨ ∀ k, v'.ownBlock = some k → w.heap.size ≤ k) (hlu : bu < w.heap.size) : Bld E bo bu n W0 R f w' x1 x2 v' v2 L' L2 := by
  have hbo : v1.ownBlock ≠ some bo := fun e => (h.d1 bo e).1 rfl
  have hbu : v1.ownBlock ≠ some bu := fun e => (h.d1 bu e).2.1 rfl
  have hl := h.lbo
  refine ⟨h.bel.grown hg h.bel.size (fun k hk => (World.ownsRow.lt h.o1 k hk).1), grownB hg h.c1 hbo, grownB hg h.c2 hbo, fun i hi h1 h2 => grownB hg (h.cr i hi h1 h2) hbo, fun i hi => (World.frozen?_of_block (w := w) (hg.block bo hl (fun e => hbo e.symm))).trans (h.fr i hi),
    fun k hk => ⟨grownB hg (h.us k hk).1 hbu, grownF hg (h.us k hk).1 (h.us k hk).2 hbu⟩, ho, h.o2.far hg (fun k hk e => (h.d1 k e).2.2 hk), fun k hk => ?_, h.d2, h.hbo, h.hbu, h.ne⟩
  rcases hat with e | e
  · exact h.d1 k (e ▸ hk)
  · have hk2 := e k hk
    exact ⟨by omega, by omega, fun e2 => by have := (World.ownsRow.lt h.o2 _ e2).2; omega⟩
theorem Bld.grow2 (h : Bld E bo bu n W0 R f w x1 x2 v1 v2 L1 L2) (ho : OwnI E W0.heap.size w' v' L') (hg : w.grownBy w' v2.ownBlock) (hat : v'.ownBlock = v2.ownBlock ∨ ∀ k, v'.ownBlock = some k → w.heap.size ≤ k) (hlu : bu < w.heap.size) : Bld E bo bu n W0 R f w' x1 x2 v1 v' L1 L' := by
  have hbo : v2.ownBlock ≠ some bo := fun e => (h.d2 bo e).1 rfl
  have hbu : v2.ownBlock ≠ some bu := fun e => (h.d2 bu e).2 rfl
  have hl := h.lbo
  refine ⟨h.bel.grown hg h.bel.size (fun k hk => (World.ownsRow.lt h.o2 k hk).1), grownB hg h.c1 hbo, grownB hg h.c2 hbo, fun i hi h1 h2 => grownB hg (h.cr i hi h1 h2) hbo, fun i hi => (World.frozen?_of_block (w := w) (hg.block bo hl (fun e => hbo e.symm))).trans (h.fr i hi),
    fun k hk => ⟨grownB hg (h.us k hk).1 hbu, grownF hg (h.us k hk).1 (h.us k hk).2 hbu⟩, h.o1.far hg (fun k hk e => (h.d1 k hk).2.2 e), ho, fun k hk => ?_, fun k hk => ?_, h.hbo, h.hbu, h.ne⟩
  · obtain ⟨a1, a2, a3⟩ := h.d1 k hk
    refine ⟨a1, a2, fun e2 => ?_⟩
    rcases hat with e | e
    · exact a3 (e ▸ e2)
    · have := e k e2
      have := (World.ownsRow.lt h.o1 k hk).2
      omega
  · rcases hat with e | e
    · exact h.d2 k (e ▸ hk)
    · have hk2 := e k hk
      exact ⟨by omega, by omega⟩
theorem Bld.put1 (h : Bld E bo bu n W0 R f w x1 x2 v1 v2 L1 L2) (u : Value) : Bld E bo bu n W0 R f (w.setCell ⟨bo, 1, none⟩ u) u x2 v1 v2 L1 L2 :=
  ⟨h.bel.setCell h.hbo _, World.cell?_setCell_same w _ _ h.c1, setCellO w h.c2 (Or.inr (by decide)), fun i hi h1 h2 => setCellO w (h.cr i hi h1 h2) (Or.inr h1), fun i hi => setCellF (h.fr i hi), h.us.other (fun e => h.ne e.symm), h.o1.setFar (fun q hq => (h.d1 q hq).1) _, h.o2.setFar (fun q hq => (h.d2 q hq).1) _, h.d1, h.d2, h.hbo, h.hbu, h.ne⟩
theorem Bld.put2 (h : Bld E bo bu n W0 R f w x1 x2 v1 v2 L1 L2) (u : Value) : Bld E bo bu n W0 R f (w.setCell ⟨bo, 2, none⟩ u) x1 u v1 v2 L1 L2 :=
  ⟨h.bel.setCell h.hbo _, setCellO w h.c1 (Or.inr (by decide)), World.cell?_setCell_same w _ _ h.c2, fun i hi h1 h2 => setCellO w (h.cr i hi h1 h2) (Or.inr h2), fun i hi => setCellF (h.fr i hi), h.us.other (fun e => h.ne e.symm), h.o1.setFar (fun q hq => (h.d1 q hq).1) _, h.o2.setFar (fun q hq => (h.d2 q hq).1) _, h.d1, h.d2, h.hbo, h.hbu, h.ne⟩
end
/-- the numbers of a tour -/
def costL (n : Nat) (D : Nat → Nat → Int) : List (List Int) := (List.range n).map fun i => (List.range n).map fun j => D i j
theorem range_at (n : Nat) (g : Nat → Int) (k : Nat) : ((List.range n).map g).getD k 0 = if k < n then g k else 0 := by
  by_cases h : k < n
  · rw [if_pos h]; simp [List.getD, h]
  · rw [if_neg h]; simp [List.getD, h]
theorem cost_at {n : Nat} {D : Nat → Nat → Int} (i j : Nat) : ((costL n D).getD i []).getD j 0 = if i < n ∧ j < n then D i j else 0 := by
  by_cases h : i < n
  · have e : (costL n D).getD i [] = (List.range n).map fun j => D i j := by simp [costL, List.getD, h]
    rw [e, range_at]
    by_cases h2 : j < n
    · rw [if_pos h2, if_pos ⟨h, h2⟩]
    · rw [if_neg h2, if_neg (fun e => h2 e.2)]
  · have e : (costL n D).getD i [] = [] := by simp [costL, List.getD, h]
    rw [e, if_neg (fun e => h e.1)]
    rfl
/-- the search begins: the numbers laid, nothing kept -/
theorem Bld.far {E : TypeId} {bo bu n : Nat} {W0 : World} {R : Nat → Value} {f : Nat → Bool} {w : World} {v1 v2 : Value} {F : Far} {D : Nat → Prop} {vc : Value} {g : Nat → Nat → Int} (h : Bld E bo bu n W0 R f w v1 v2 v1 v2 F.first F.last) (hn : 1 ≤ n) (h1 : F.first.length = n) (h2 : F.last.length = n)
    (ht : RdTab n g W0 vc) (hD : ∀ k, D k → W0.heap.size ≤ k ∧ v1.ownBlock ≠ some k ∧ v2.ownBlock ≠ some k) (hc : ∀ i j, i < n → j < n → (F.costs.getD i []).getD j 0 = g i j) : RdFar D n w vc v1 v2 F := by
  have ht2 := ht.below h.bel
  obtain ⟨a, cap, rfl, hr⟩ := ht2
  obtain ⟨a', cap', he, hr0⟩ := ht
  cases he
  obtain ⟨b, off, -, -, -, rfl, -, -⟩ := hr0 0 (by omega)
  refine ⟨⟨b, off, cap, rfl, fun i hi => ?_⟩, ?_, ?_⟩
  · obtain ⟨b', off', bi, oi, ci, e1, e2, e3⟩ := hr0 i hi
    cases e1
    have l1 : b < W0.heap.size := World.block_lt_of_cell? W0 _ e2
    have l2 : bi < W0.heap.size := World.block_lt_of_cell? W0 _ (e3 0 (by omega))
    refine ⟨bi, oi, ci, fun d => by have := (hD _ d).1; omega, fun d => by have := (hD _ d).1; omega, cellB h.bel e2, fun j hj => ?_⟩
    rw [hc i j hi hj]; exact cellB h.bel (e3 j hj)
  · rcases h.o1.shape with ⟨-, hnil⟩ | ⟨g1, cap1, rfl, -, -, -, -, hcr, -⟩
    · rw [hnil] at h1; simp at h1; omega
    · rw [h1]
      exact ⟨g1, 0, cap1, rfl, fun d => (hD g1 d).2.1 rfl, fun j hj => by rw [Nat.zero_add]; exact hcr j (by omega)⟩
  · rcases h.o2.shape with ⟨-, hnil⟩ | ⟨g1, cap1, rfl, -, -, -, -, hcr, -⟩
    · rw [hnil] at h2; simp at h2; omega
    · rw [h2]
      exact ⟨g1, 0, cap1, rfl, fun d => (hD g1 d).2.2 rfl, fun j hj => by rw [Nat.zero_add]; exact hcr j (by omega)⟩
end Go.Proofs.Ytgcmnpimkfmccaa
end
section
section
set_option linter.unusedVariables false
namespace Go.Proofs.Ytgcmnpimkfmccaa
open Go.ChangeShapes Go.WideShapes Go.ChangeAt Go.RowKit
def CellsAt (w : World) (g m : Nat) : Prop := ∀ i, i < m → (∃ u, w.cell? ⟨g, i, none⟩ = some u) ∧ w.frozen? ⟨g, i, none⟩ = false
def FilledTo {α : Type} (sz : Nat) (row : α → List Value) (w : World) (g : Nat) (xs : List α) (k : Nat) : Prop := ∀ i (hi : i < xs.length), i < k → ∀ c u, (row xs[i])[c]? = some u → w.cell? ⟨g, i * sz + c, none⟩ = some u
theorem CellsAt.below {a b : World} {g m : Nat} (h : CellsAt a g m) (hb : Below a.heap.size a b) : CellsAt b g m := fun i hi => by
  obtain ⟨⟨u, hu⟩, hf⟩ := h i hi
  exact ⟨⟨u, keepc hb hu⟩, frozenc hb hu hf⟩
theorem FilledTo.below {α : Type} {sz : Nat} {row : α → List Value} {a b : World} {g : Nat} {xs : List α} {k : Nat} (h : FilledTo sz row a g xs k) (hb : Below a.heap.size a b) : FilledTo sz row b g xs k := fun i hi hk c u hu => keepc hb (h i hi hk c u hu)
theorem FilledTo.rd {α : Type} {sz : Nat} {row : α → List Value} {w : World} {g cap : Nat} {xs : List α} (h : FilledTo sz row w g xs xs.length) (hl : xs.length ≤ 9223372036854775807) : RdRow sz row w (.slice (some ⟨g, 0, none⟩) xs.length cap) xs :=
  ⟨_, _, rfl, hl, fun k hk => ⟨g, 0, rfl, fun c u hu => by rw [Nat.zero_add]; exact h k hk hk c u hu⟩⟩
end Go.Proofs.Ytgcmnpimkfmccaa
end
section
set_option linter.unusedVariables false
namespace Go.Proofs.Ytgcmnpimkfmccaa
open Go.ChangeShapes Go.WideShapes Go.ChangeAt Go.RowKit
/-- a made slice of the call's own, with some cells -/
def OwnC (E : TypeId) (sz lo : Nat) (w : World) (g n : Nat) : Prop := ∃ cs, w.ownsRow lo E sz (.slice (some ⟨g, 0, none⟩) n n) n cs
theorem OwnC.below {E : TypeId} {sz lo g n : Nat} {a b : World} (h : OwnC E sz lo a g n) (hb : Below a.heap.size a b) : OwnC E sz lo b g n := by
  obtain ⟨cs, h⟩ := h
  exact ⟨cs, owns_below h hb⟩
theorem OwnC.set {E : TypeId} {sz lo g n : Nat} {a : World} (h : OwnC E sz lo a g n) (g' j : Nat) (u : Value) : OwnC E sz lo (a.setCell ⟨g', j, none⟩ u) g n := by
  obtain ⟨cs, h⟩ := h
  by_cases hg : g' = g
  · subst hg
    exact ⟨_, (World.ownsRow.stored h j u).1⟩
  · exact ⟨cs, owns_block h fun k hk => by
      simp only [Value.ownBlock, Option.some.injEq] at hk
      exact heap_setCell_other a ⟨g', j, none⟩ k u (fun e => hg (by rw [hk]; exact e.symm))⟩
end Go.Proofs.Ytgcmnpimkfmccaa
end
end
section
namespace Go.Proofs.Ytgcmnpimkfmccaa
open Go.ChangeShapes Go.WideShapes Go.ChangeAt Go.RowKit
set_option linter.unusedVariables false
abbrev Part2 := List Int × Int
def RdP (w : World) (v : Value) (X : List Part2) : Prop :=
  ∃ a cap, v = .slice a X.length cap ∧ X.length ≤ 9223372036854775807 ∧ ∀ k (hk : k < X.length), ∃ b off u, a = some ⟨b, off, none⟩ ∧ w.cell? ⟨b, off + k * 2, none⟩ = some u ∧ w.cell? ⟨b, off + k * 2 + 1, none⟩ = some (.int .i64 X[k].2) ∧ RdI w u X[k].1
theorem RdP.below {a b : World} {v : Value} {X : List Part2} (h : RdP a v X) (hb : Below a.heap.size a b) : RdP b v X := by
  obtain ⟨ad, cap, hv, hl, hc⟩ := h
  refine ⟨ad, cap, hv, hl, fun k hk => ?_⟩
  obtain ⟨bl, off, u, ha, h0, h1, hu⟩ := hc k hk
  exact ⟨bl, off, u, ha, keepc hb h0, keepc hb h1, hu.below hb⟩
/-- n parts in block g, their patterns in blocks of their own above it -/
structure OwnP (E : TypeId) (lo : Nat) (w : World) (g : Nat) (X : List Part2) (n k : Nat) (U : Nat → Value) : Prop where
  hlo : lo ≤ g
  cells : CellsAt w g (n * 2)
  get : ∀ i (hi : i < X.length), i < k → w.cell? ⟨g, i * 2, none⟩ = some (U i) ∧ w.cell? ⟨g, i * 2 + 1, none⟩ = some (.int .i64 X[i].2) ∧ OwnI E (g + 1) w (U i) X[i].1
  dis : ∀ i j, i < j → j < k → ∀ b, (U i).ownBlock = some b → (U j).ownBlock ≠ some b
theorem OwnP.below {E : TypeId} {lo : Nat} {a b : World} {g n k : Nat} {X : List Part2} {U : Nat → Value} (h : OwnP E lo a g X n k U) (hb : Below a.heap.size a b) : OwnP E lo b g X n k U :=
  ⟨h.hlo, h.cells.below hb, fun i hi hk => by obtain ⟨h1, h2, h3⟩ := h.get i hi hk; exact ⟨keepc hb h1, keepc hb h2, h3.below hb⟩, h.dis⟩
theorem OwnP.setBelow {E : TypeId} {lo : Nat} {w : World} {g n k : Nat} {X : List Part2} {U : Nat → Value} (h : OwnP E lo w g X n k U) {p : Addr} (hp : p.block < lo) (u : Value) : OwnP E lo (w.setCell p u) g X n k U := by
  have hg := h.hlo
  have hne : p.block ≠ g := by omega
  refine ⟨h.hlo, fun i hi => ⟨?_, by rw [World.frozen?_setCell]; exact (h.cells i hi).2⟩, fun i hi hk => ?_, h.dis⟩
  · obtain ⟨v, hv⟩ := (h.cells i hi).1
    exact ⟨v, (World.cell?_setCell_far _ _ _ _ hne).trans hv⟩
  · obtain ⟨h1, h2, h3⟩ := h.get i hi hk
    exact ⟨(World.cell?_setCell_far _ _ _ _ hne).trans h1, (World.cell?_setCell_far _ _ _ _ hne).trans h2, h3.setBelow (by omega) u⟩
theorem OwnP.low {E : TypeId} {lo lo' : Nat} {w : World} {g n k : Nat} {X : List Part2} {U : Nat → Value} (h : OwnP E lo w g X n k U) (hl : lo' ≤ lo) : OwnP E lo' w g X n k U := ⟨Nat.le_trans hl h.hlo, h.cells, h.get, h.dis⟩
theorem OwnP.rd {E : TypeId} {lo : Nat} {w : World} {g cap : Nat} {X : List Part2} {U : Nat → Value} (h : OwnP E lo w g X X.length X.length U) (hl : X.length ≤ 9223372036854775807) : RdP w (.slice (some ⟨g, 0, none⟩) X.length cap) X :=
  ⟨_, _, rfl, hl, fun k hk => by
    obtain ⟨h1, h2, h3⟩ := h.get k hk hk
    exact ⟨g, 0, U k, rfl, by rw [Nat.zero_add]; exact h1, by rw [Nat.zero_add]; exact h2, h3.rd⟩⟩
theorem OwnP.step {E : TypeId} {lo : Nat} {w : World} {g k : Nat} {X : List Part2} {U : Nat → Value} (h : OwnP E lo w g X X.length k U) (hk : k < X.length) (u : Value) (m : Nat) (hown : OwnI E m w u X[k].1) (hm : g < m) (hU : ∀ i, i < k → ∀ b, (U i).ownBlock = some b → b < m) :
    OwnP E lo ((w.setCell ⟨g, k * 2, none⟩ u).setCell ⟨g, k * 2 + 1, none⟩ (.int .i64 X[k].2)) g X X.length (k + 1) (fun i => if i = k then u else U i) ∧ w.grownBy ((w.setCell ⟨g, k * 2, none⟩ u).setCell ⟨g, k * 2 + 1, none⟩ (.int .i64 X[k].2)) (some g) := by
  have hin : ∀ j, j < [u, Value.int .i64 X[k].2].length → (w.cell? ⟨g, k * 2 + j, none⟩).isSome = true := fun j hj => by
    simp only [List.length_cons, List.length_nil] at hj
    obtain ⟨⟨v, hv⟩, _⟩ := h.cells (k * 2 + j) (by omega)
    rw [hv]; rfl
  have c0 : ((w.setCell ⟨g, k * 2, none⟩ u).setCell ⟨g, k * 2 + 1, none⟩ (.int .i64 X[k].2)).cell? ⟨g, k * 2, none⟩ = some u := World.cell?_setCells_in g [u, .int .i64 X[k].2] (k * 2) w hin 0 (by simp)
  have c1 : ((w.setCell ⟨g, k * 2, none⟩ u).setCell ⟨g, k * 2 + 1, none⟩ (.int .i64 X[k].2)).cell? ⟨g, k * 2 + 1, none⟩ = some (.int .i64 X[k].2) := World.cell?_setCells_in g [u, .int .i64 X[k].2] (k * 2) w hin 1 (by simp)
  have cf : ∀ p, ((w.setCell ⟨g, k * 2, none⟩ u).setCell ⟨g, k * 2 + 1, none⟩ (.int .i64 X[k].2)).frozen? p = w.frozen? p := fun p => frozen_setCells g p [u, .int .i64 X[k].2] (k * 2) w
  have co : ∀ o, o < k * 2 ∨ k * 2 + 2 ≤ o → ((w.setCell ⟨g, k * 2, none⟩ u).setCell ⟨g, k * 2 + 1, none⟩ (.int .i64 X[k].2)).cell? ⟨g, o, none⟩ = w.cell? ⟨g, o, none⟩ := fun o ho => World.cell?_setCells_out g [u, .int .i64 X[k].2] (k * 2) w ⟨g, o, none⟩ (fun _ _ => ho)
  have hgr : w.grownBy ((w.setCell ⟨g, k * 2, none⟩ u).setCell ⟨g, k * 2 + 1, none⟩ (.int .i64 X[k].2)) (some g) := grownBy_setCells w g [u, .int .i64 X[k].2] (k * 2)
  have hrow : ∀ {B : Nat} {v : Value} {xs : List Int}, OwnI E B w v xs → g < B → OwnI E B ((w.setCell ⟨g, k * 2, none⟩ u).setCell ⟨g, k * 2 + 1, none⟩ (.int .i64 X[k].2)) v xs := fun ho hB => (ho.setBelow hB _).setBelow hB _
  refine ⟨⟨h.hlo, fun i hi => ⟨?_, by rw [cf]; exact (h.cells i hi).2⟩, fun i hi hik => ?_, fun i j hij hj b hb => ?_⟩, hgr⟩
  · by_cases e0 : i = k * 2
    · subst e0; exact ⟨_, c0⟩
    · by_cases e1 : i = k * 2 + 1
      · subst e1; exact ⟨_, c1⟩
      · rw [co i (by omega)]; exact (h.cells i hi).1
  · by_cases e : i = k
    · subst e
      simp only [if_true]
      exact ⟨c0, c1, (hrow hown hm).base (by omega)⟩
    · simp only [if_neg e]
      obtain ⟨h1, h2, h3⟩ := h.get i hi (by omega)
      exact ⟨by rw [co _ (by omega)]; exact h1, by rw [co _ (by omega)]; exact h2, hrow h3 (Nat.lt_succ_self g)⟩
  · have e1 : i ≠ k := by omega
    simp only [if_neg e1] at hb
    by_cases e2 : j = k
    · subst e2
      simp only [if_true]
      intro e3
      have h1 := hU i (by omega) b hb
      have h2 := (World.ownsRow.lt hown b e3).1
      omega
    · simp only [if_neg e2]
      exact h.dis i j hij (by omega) b hb
end Go.Proofs.Ytgcmnpimkfmccaa
end
