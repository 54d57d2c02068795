/- The law LinesX: what it rests on, part 17 of 46. -/
import Derived.Test.YtioemkdapoombaaGreatDoorQLinesX04
import Derived.Test.YtioemkdapoombaaGreatDoorQLinesX06
import Derived.Deep.RegionHeld
import Derived.Deep.RegionHeld3
section
section
set_option linter.unusedVariables false
namespace Go.Proofs.YtioemkdapoombaaGreatDoor
open Go.ChangeShapes Go.WideShapes Go.ChangeAt Go.RowKit
def CellsAt (w : World) (g m : Nat) : Prop := ∀ i, i < m → (∃ u, w.cell? ⟨g, i, none⟩ = some u) ∧ w.frozen? ⟨g, i, none⟩ = false
def FilledTo {α : Type} (sz : Nat) (row : α → List Value) (w : World) (g : Nat) (xs : List α) (k : Nat) : Prop := ∀ i (hi : i < xs.length), i < k → ∀ c u, (row xs[i])[c]? = some u → w.cell? ⟨g, i * sz + c, none⟩ = some u
theorem CellsAt.below {a b : World} {g m : Nat} (h : CellsAt a g m) (hb : Below a.heap.size a b) : CellsAt b g m := fun i hi => by
  obtain ⟨⟨u, hu⟩, hf⟩ := h i hi
  exact ⟨⟨u, keepc hb hu⟩, frozenc hb hu hf⟩
theorem FilledTo.below {α : Type} {sz : Nat} {row : α → List Value} {a b : World} {g : Nat} {xs : List α} {k : Nat} (h : FilledTo sz row a g xs k) (hb : Below a.heap.size a b) : FilledTo sz row b g xs k := fun i hi hk c u hu => keepc hb (h i hi hk c u hu)
theorem FilledTo.rd {α : Type} {sz : Nat} {row : α → List Value} {w : World} {g cap : Nat} {xs : List α} (h : FilledTo sz row w g xs xs.length) (hl : xs.length ≤ 9223372036854775807) : RdRow sz row w (.slice (some ⟨g, 0, none⟩) xs.length cap) xs :=
  ⟨_, _, rfl, hl, fun k hk => ⟨g, 0, rfl, fun c u hu => by rw [Nat.zero_add]; exact h k hk hk c u hu⟩⟩
end Go.Proofs.YtioemkdapoombaaGreatDoor
end
section
set_option linter.unusedVariables false
namespace Go.Proofs.YtioemkdapoombaaGreatDoor
open Go.ChangeShapes Go.WideShapes Go.ChangeAt Go.RowKit
/-- a made slice of the call's own, with some cells -/
def OwnC (E : TypeId) (sz lo : Nat) (w : World) (g n : Nat) : Prop := ∃ cs, w.ownsRow lo E sz (.slice (some ⟨g, 0, none⟩) n n) n cs
theorem OwnC.below {E : TypeId} {sz lo g n : Nat} {a b : World} (h : OwnC E sz lo a g n) (hb : Below a.heap.size a b) : OwnC E sz lo b g n := by
  obtain ⟨cs, h⟩ := h
  exact ⟨cs, owns_below h hb⟩
theorem OwnC.set {E : TypeId} {sz lo g n : Nat} {a : World} (h : OwnC E sz lo a g n) (g' j : Nat) (u : Value) : OwnC E sz lo (a.setCell ⟨g', j, none⟩ u) g n := by
  obtain ⟨cs, h⟩ := h
  by_cases hg : g' = g
  · subst hg
    exact ⟨_, (World.ownsRow.stored h j u).1⟩
  · exact ⟨cs, owns_block h fun k hk => by
      simp only [Value.ownBlock, Option.some.injEq] at hk
      exact heap_setCell_other a ⟨g', j, none⟩ k u (fun e => hg (by rw [hk]; exact e.symm))⟩
end Go.Proofs.YtioemkdapoombaaGreatDoor
end
end
section
namespace Go.Proofs.YtioemkdapoombaaGreatDoor
open Go.ChangeShapes Go.WideShapes Go.ChangeAt Go.RowKit
set_option linter.unusedVariables false
abbrev Part2 := List Int × Int
def RdP (w : World) (v : Value) (X : List Part2) : Prop :=
  ∃ a cap, v = .slice a X.length cap ∧ X.length ≤ 9223372036854775807 ∧ ∀ k (hk : k < X.length), ∃ b off u, a = some ⟨b, off, none⟩ ∧ w.cell? ⟨b, off + k * 2, none⟩ = some u ∧ w.cell? ⟨b, off + k * 2 + 1, none⟩ = some (.int .i64 X[k].2) ∧ RdI w u X[k].1
theorem RdP.below {a b : World} {v : Value} {X : List Part2} (h : RdP a v X) (hb : Below a.heap.size a b) : RdP b v X := by
  obtain ⟨ad, cap, hv, hl, hc⟩ := h
  refine ⟨ad, cap, hv, hl, fun k hk => ?_⟩
  obtain ⟨bl, off, u, ha, h0, h1, hu⟩ := hc k hk
  exact ⟨bl, off, u, ha, keepc hb h0, keepc hb h1, hu.below hb⟩
/-- n parts in block g, their patterns in blocks of their own above it -/
structure OwnP (E : TypeId) (lo : Nat) (w : World) (g : Nat) (X : List Part2) (n k : Nat) (U : Nat → Value) : Prop where
  hlo : lo ≤ g
  cells : CellsAt w g (n * 2)
  get : ∀ i (hi : i < X.length), i < k → w.cell? ⟨g, i * 2, none⟩ = some (U i) ∧ w.cell? ⟨g, i * 2 + 1, none⟩ = some (.int .i64 X[i].2) ∧ OwnI E (g + 1) w (U i) X[i].1
  dis : ∀ i j, i < j → j < k → ∀ b, (U i).ownBlock = some b → (U j).ownBlock ≠ some b
theorem OwnP.below {E : TypeId} {lo : Nat} {a b : World} {g n k : Nat} {X : List Part2} {U : Nat → Value} (h : OwnP E lo a g X n k U) (hb : Below a.heap.size a b) : OwnP E lo b g X n k U :=
  ⟨h.hlo, h.cells.below hb, fun i hi hk => by obtain ⟨h1, h2, h3⟩ := h.get i hi hk; exact ⟨keepc hb h1, keepc hb h2, h3.below hb⟩, h.dis⟩
theorem OwnP.setBelow {E : TypeId} {lo : Nat} {w : World} {g n k : Nat} {X : List Part2} {U : Nat → Value} (h : OwnP E lo w g X n k U) {p : Addr} (hp : p.block < lo) (u : Value) : OwnP E lo (w.setCell p u) g X n k U := by
  have hg := h.hlo
  have hne : p.block ≠ g := by omega
  refine ⟨h.hlo, fun i hi => ⟨?_, by rw [World.frozen?_setCell]; exact (h.cells i hi).2⟩, fun i hi hk => ?_, h.dis⟩
  · obtain ⟨v, hv⟩ := (h.cells i hi).1
    exact ⟨v, (World.cell?_setCell_far _ _ _ _ hne).trans hv⟩
  · obtain ⟨h1, h2, h3⟩ := h.get i hi hk
    exact ⟨(World.cell?_setCell_far _ _ _ _ hne).trans h1, (World.cell?_setCell_far _ _ _ _ hne).trans h2, h3.setBelow (by omega) u⟩
theorem OwnP.rd {E : TypeId} {lo : Nat} {w : World} {g cap : Nat} {X : List Part2} {U : Nat → Value} (h : OwnP E lo w g X X.length X.length U) (hl : X.length ≤ 9223372036854775807) : RdP w (.slice (some ⟨g, 0, none⟩) X.length cap) X :=
  ⟨_, _, rfl, hl, fun k hk => by
    obtain ⟨h1, h2, h3⟩ := h.get k hk hk
    exact ⟨g, 0, U k, rfl, by rw [Nat.zero_add]; exact h1, by rw [Nat.zero_add]; exact h2, h3.rd⟩⟩
theorem OwnP.step {E : TypeId} {lo : Nat} {w : World} {g k : Nat} {X : List Part2} {U : Nat → Value} (h : OwnP E lo w g X X.length k U) (hk : k < X.length) (u : Value) (m : Nat) (hown : OwnI E m w u X[k].1) (hm : g < m) (hU : ∀ i, i < k → ∀ b, (U i).ownBlock = some b → b < m) :
    OwnP E lo ((w.setCell ⟨g, k * 2, none⟩ u).setCell ⟨g, k * 2 + 1, none⟩ (.int .i64 X[k].2)) g X X.length (k + 1) (fun i => if i = k then u else U i) ∧ w.grownBy ((w.setCell ⟨g, k * 2, none⟩ u).setCell ⟨g, k * 2 + 1, none⟩ (.int .i64 X[k].2)) (some g) := by
  have hin : ∀ j, j < [u, Value.int .i64 X[k].2].length → (w.cell? ⟨g, k * 2 + j, none⟩).isSome = true := fun j hj => by
    simp only [List.length_cons, List.length_nil] at hj
    obtain ⟨⟨v, hv⟩, _⟩ := h.cells (k * 2 + j) (by omega)
    rw [hv]; rfl
  have c0 : ((w.setCell ⟨g, k * 2, none⟩ u).setCell ⟨g, k * 2 + 1, none⟩ (.int .i64 X[k].2)).cell? ⟨g, k * 2, none⟩ = some u := World.cell?_setCells_in g [u, .int .i64 X[k].2] (k * 2) w hin 0 (by simp)
  have c1 : ((w.setCell ⟨g, k * 2, none⟩ u).setCell ⟨g, k * 2 + 1, none⟩ (.int .i64 X[k].2)).cell? ⟨g, k * 2 + 1, none⟩ = some (.int .i64 X[k].2) := World.cell?_setCells_in g [u, .int .i64 X[k].2] (k * 2) w hin 1 (by simp)
  have cf : ∀ p, ((w.setCell ⟨g, k * 2, none⟩ u).setCell ⟨g, k * 2 + 1, none⟩ (.int .i64 X[k].2)).frozen? p = w.frozen? p := fun p => frozen_setCells g p [u, .int .i64 X[k].2] (k * 2) w
  have co : ∀ o, o < k * 2 ∨ k * 2 + 2 ≤ o → ((w.setCell ⟨g, k * 2, none⟩ u).setCell ⟨g, k * 2 + 1, none⟩ (.int .i64 X[k].2)).cell? ⟨g, o, none⟩ = w.cell? ⟨g, o, none⟩ := fun o ho => World.cell?_setCells_out g [u, .int .i64 X[k].2] (k * 2) w ⟨g, o, none⟩ (fun _ _ => ho)
  have hgr : w.grownBy ((w.setCell ⟨g, k * 2, none⟩ u).setCell ⟨g, k * 2 + 1, none⟩ (.int .i64 X[k].2)) (some g) := grownBy_setCells w g [u, .int .i64 X[k].2] (k * 2)
  have hrow : ∀ {B : Nat} {v : Value} {xs : List Int}, OwnI E B w v xs → g < B → OwnI E B ((w.setCell ⟨g, k * 2, none⟩ u).setCell ⟨g, k * 2 + 1, none⟩ (.int .i64 X[k].2)) v xs := fun ho hB => (ho.setBelow hB _).setBelow hB _
  refine ⟨⟨h.hlo, fun i hi => ⟨?_, by rw [cf]; exact (h.cells i hi).2⟩, fun i hi hik => ?_, fun i j hij hj b hb => ?_⟩, hgr⟩
  · by_cases e0 : i = k * 2
    · subst e0; exact ⟨_, c0⟩
    · by_cases e1 : i = k * 2 + 1
      · subst e1; exact ⟨_, c1⟩
      · rw [co i (by omega)]; exact (h.cells i hi).1
  · by_cases e : i = k
    · subst e
      simp only [if_true]
      exact ⟨c0, c1, (hrow hown hm).base (by omega)⟩
    · simp only [if_neg e]
      obtain ⟨h1, h2, h3⟩ := h.get i hi (by omega)
      exact ⟨by rw [co _ (by omega)]; exact h1, by rw [co _ (by omega)]; exact h2, hrow h3 (Nat.lt_succ_self g)⟩
  · have e1 : i ≠ k := by omega
    simp only [if_neg e1] at hb
    by_cases e2 : j = k
    · subst e2
      simp only [if_true]
      intro e3
      have h1 := hU i (by omega) b hb
      have h2 := (World.ownsRow.lt hown b e3).1
      omega
    · simp only [if_neg e2]
      exact h.dis i j hij (by omega) b hb
end Go.Proofs.YtioemkdapoombaaGreatDoor
end
section
namespace Go.RowKit
open Go.ChangeShapes Go.WideShapes Go.ChangeAt
set_option linter.unusedVariables false
section
variable {P : Program} {ops : Array Oper} {Q : Exit → Act → World → Prop} {md : Region.Mode} {S : Array Bool → World → Prop}
/-- whatever order is picked: behind each operation S holds of what has come up and of the world -/
def wpAnyL (P : Program) (md : Region.Mode) (ops : Array Oper) (Q : Exit → Act → World → Prop) (S : Array Bool → World → Prop) : Nat → Array Bool → Act → World → Prop
  | 0, L, a, w => Region.ready md ops L = [] ∧ Q .normal a w
  | m + 1, L, a, w => (Region.ready md ops L = [] → Q .normal a w) ∧
    ∀ i ∈ Region.ready md ops L, wpOp P ops Q i (fun a' w' => S (L.setIfInBounds i true) w' ∧ wpAnyL P md ops Q S m (L.setIfInBounds i true) a' w') a w
theorem wpAnyL.any : ∀ (m : Nat) (L : Array Bool) (a : Act) (w : World), wpAnyL P md ops Q S m L a w → wpAny P md ops Q m L a w
  | 0, _, _, _, h => h
  | m + 1, _, _, _, h => ⟨h.1, fun i hi => wpOp_mono (fun a' w' h' => wpAnyL.any m _ a' w' h'.2) (h.2 i hi)⟩
/-- operation i is taken first: as long as q, which waits for it, has not come up, S gives S0, under which i yields its value -/
theorem wpAnyL_first {S0 : World → Prop} {i q : Nat} {oi oq : Oper} {v : Value} (hi : ops[i]? = some oi) (hoq : ops[q]? = some oq) (hwt : ∃ e ∈ oq.after, Region.binds md e = true ∧ e.on = i)
    (hsel : ∀ (j : Nat) (o : Oper) cs b, ops[j]? = some o → o.op ≠ .select cs b)
    (hQ : ∀ c a w, Q (.panic c) (a.put oi.dst v) w → Q (.panic c) a w)
    (hS0 : ∀ L w, L.getD q true = false → S L w → S0 w) (hSi : ∀ L w, S (L.setIfInBounds i true) w ↔ S L w) :
    ∀ (m : Nat) (L : Array Bool) (a : Act) (w : World),
      (∀ j oj, ops[j]? = some oj → j ≠ i → L.getD j true = false → (∀ e ∈ oj.after, Region.binds md e = true → e.on ≠ i) → oi.apart ops oj = true) →
      i ∈ Region.ready md ops L → L.getD q true = false → YieldsIf P ops S0 oi v a → S L w →
      wpAnyL P md ops Q S m (L.setIfInBounds i true) (a.put oi.dst v) w → wpAnyL P md ops Q S (m + 1) L a w := by
  intro m
  induction m with
  | zero =>
    intro L a w _ hr hq hy hS H
    refine ⟨fun h => (by rw [h] at hr; cases hr), fun j hj => ?_⟩
    by_cases hji : j = i
    · subst hji
      exact hy.wpOp hi (hS0 L w hq hS) ⟨(hSi L w).2 hS, H⟩
    · have := ready_mono hj hji
      rw [H.1] at this
      cases this
  | succ m ih =>
    intro L a w hfree hr hq hy hS H
    refine ⟨fun h => (by rw [h] at hr; cases hr), fun j hj => ?_⟩
    by_cases hji : j = i
    · subst hji
      exact hy.wpOp hi (hS0 L w hq hS) ⟨(hSi L w).2 hS, H⟩
    · have h1 := H.2 j (ready_mono hj hji)
      obtain ⟨hjun, oj, hoj, hall⟩ := mem_ready.1 hj
      have hun := (mem_ready.1 hr).1
      have hnot : ∀ e ∈ oj.after, Region.binds md e = true → e.on ≠ i := fun e he hb heq => by
        have t1 := hall e he hb
        rw [heq] at t1
        rcases Nat.lt_or_ge i L.size with t2 | t2
        · simp [t2] at hun t1
          rw [hun] at t1
          cases t1
        · simp [Array.getElem?_eq_none t2] at t1
      have hjq : j ≠ q := fun e => by
        subst e
        rw [hoj] at hoq
        cases hoq
        obtain ⟨ed, he, hb, ho⟩ := hwt
        exact hnot ed he hb ho
      have h2 := wpOp_putIf hoj (hfree j oj hoj hji hjun hnot) (fun cs b => hsel i oi cs b hi) (fun cs b => hsel j oj cs b hoj) hQ hy h1
      have hfree' : ∀ k ok, ops[k]? = some ok → k ≠ i → (L.setIfInBounds j true).getD k true = false →
          (∀ e ∈ ok.after, Region.binds md e = true → e.on ≠ i) → oi.apart ops ok = true := fun k ok hk hki hku hno => by
        refine hfree k ok hk hki ?_ hno
        by_cases hjk : j = k
        · subst hjk; exact hjun
        · rw [getD_set_ne true hjk] at hku; exact hku
      refine wpOp_mono (fun a' w' h3 => ?_) h2
      obtain ⟨h4, h5, h6⟩ := h3
      rw [Array.setIfInBounds_comm _ _ (Ne.symm hji)] at h5 h6
      have h7 := (hSi _ _).1 h5
      exact ⟨h7, ih (L.setIfInBounds j true) a' w' hfree' (ready_mono hr (Ne.symm hji)) (by rw [getD_set_ne true hjq]; exact hq) h4 h7 h6⟩
theorem wpAnyL_take {S0 : World → Prop} {i q : Nat} {oi oq : Oper} {v : Value} {m : Nat} {L : Array Bool} {a : Act} {w : World} (hi : ops[i]? = some oi) (hoq : ops[q]? = some oq)
    (hwt : (oq.after.any fun e => Region.binds md e && e.on == i) = true)
    (hs : Region.noSelect ops = true) (hf : Region.free md ops L i = true) (hr : (Region.ready md ops L).contains i = true) (hq : L.getD q true = false)
    (hQ : ∀ c a w, Q (.panic c) (a.put oi.dst v) w → Q (.panic c) a w)
    (hS0 : ∀ L w, L.getD q true = false → S L w → S0 w) (hSi : ∀ L w, S (L.setIfInBounds i true) w ↔ S L w)
    (hy : YieldsIf P ops S0 oi v a) (hS : S L w)
    (h : wpAnyL P md ops Q S m (L.setIfInBounds i true) (a.put oi.dst v) w) : wpAnyL P md ops Q S (m + 1) L a w :=
  wpAnyL_first hi hoq (by
    obtain ⟨k, hk, he⟩ := Array.any_eq_true.1 hwt
    rw [Bool.and_eq_true] at he
    exact ⟨oq.after[k], Array.getElem_mem hk, he.1, by simpa using he.2⟩) (Region.noSelect_spec hs) hQ hS0 hSi m L a w (Region.free_spec hi hf) (by simpa using hr) hq hy hS h
def AllReadyL (P : Program) (md : Region.Mode) (ops : Array Oper) (Q : Exit → Act → World → Prop) (S : Array Bool → World → Prop) (m : Nat) (L : Array Bool) (a : Act) (w : World) (rs : List Nat) : Prop :=
  ∀ i ∈ rs, wpOp P ops Q i (fun a' w' => S (L.setIfInBounds i true) w' ∧ wpAnyL P md ops Q S m (L.setIfInBounds i true) a' w') a w
theorem AllReadyL.nil {m : Nat} {L : Array Bool} {a : Act} {w : World} : AllReadyL P md ops Q S m L a w [] := fun _ h => by cases h
theorem AllReadyL.cons {m : Nat} {L : Array Bool} {a : Act} {w : World} {i : Nat} {o : Oper} {rs : List Nat} (ho : ops[i]? = some o)
    (h : ∀ K' : Act → World → Prop, Shut (∀ a w, S (L.setIfInBounds i true) w → (S (L.setIfInBounds i true) w → wpAnyL P md ops Q S m (L.setIfInBounds i true) a w) → K' a w) → if Region.wanted o (yielded ops a.tmps) = true then Oper.wp P o a w K' Q else K' (a.put o.dst undef) w)
    (hs : AllReadyL P md ops Q S m L a w rs) : AllReadyL P md ops Q S m L a w (i :: rs) := fun j hj => by
  rcases List.mem_cons.1 hj with rfl | hj
  · exact wpOp_step ho (fun K' hK => h K' (fun a w hS hW => hK a w ⟨hS, hW hS⟩))
  · exact hs j hj
theorem wpAnyL_ready {rs : List Nat} {m : Nat} {L : Array Bool} {a : Act} {w : World} (hr : Region.ready md ops L = rs) (hne : rs ≠ [])
    (h : AllReadyL P md ops Q S m L a w rs) : wpAnyL P md ops Q S (m + 1) L a w := ⟨fun h0 => absurd (hr ▸ h0) hne, hr ▸ h⟩
theorem wpAnyL_done {L : Array Bool} {a : Act} {w : World} (hr : Region.ready md ops L = []) (h : Q .normal a w) : ∀ m, wpAnyL P md ops Q S m L a w
  | 0 => ⟨hr, h⟩
  | _ + 1 => ⟨fun _ => h, by rw [hr]; simp⟩
theorem wp_region_L {id : Nat} {a : Act} {w : World} (hm : P.follows .mixedOrders = true)
    (h : wpAnyL P .any ops Q S ops.size (Array.replicate ops.size false) a w.drew) : (Code.region id ops true).wp P Q a w :=
  wp_region_any hm (wpAnyL.any _ _ _ _ h)
end
/-- two conditions, each as long as an operation has not come up -/
def untilL (q1 q2 : Nat) (A B : World → Prop) (L : Array Bool) (w : World) : Prop := (L.getD q1 true = false → A w) ∧ (L.getD q2 true = false → B w)
theorem untilL_set {q1 q2 i : Nat} {A B : World → Prop} (h1 : i ≠ q1) (h2 : i ≠ q2) (L : Array Bool) (w : World) : untilL q1 q2 A B (L.setIfInBounds i true) w ↔ untilL q1 q2 A B L w := by
  unfold untilL
  rw [getD_set_ne true h1, getD_set_ne true h2]
end Go.RowKit
end
