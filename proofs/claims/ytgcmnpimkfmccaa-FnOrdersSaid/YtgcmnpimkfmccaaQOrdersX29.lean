/- The law OrdersX: what it rests on, part 29 of 48. -/
import Derived.Test.YtgcmnpimkfmccaaQOrdersX21
import Derived.Test.YtgcmnpimkfmccaaQOrdersX22
import Derived.Test.YtgcmnpimkfmccaaQOrdersX25
import Derived.Test.YtgcmnpimkfmccaaQOrdersX28
section
namespace Go.Proofs.Ytgcmnpimkfmccaa
open Go.ChangeShapes Go.WideShapes Go.ChangeAt Go.RowKit
set_option linter.unusedVariables false
/-- the numbers of an order: ways between parts, from the ground state, to it -/
noncomputable def ordD (h : Int) (X : List Part2) (i j : Nat) : Int := ((shortL h (stR h X i) (stR h X j)).length : Int)
noncomputable def ordE (h : Int) (X : List Part2) (i : Nat) : Int := ((shortL h (grR X) (stR h X i)).length : Int)
noncomputable def ordB (h : Int) (X : List Part2) (i : Nat) : Int := ((shortL h (stR h X i) (grR X)).length : Int)
noncomputable def ordRow (h : Int) (X : List Part2) (i k : Nat) : List Int := (List.range k).map fun j => ordD h X i j
noncomputable def ordCs (h : Int) (X : List Part2) (k : Nat) : List (List Int) := (List.range k).map fun i => ordRow h X i X.length
noncomputable def ordF (h : Int) (X : List Part2) : Far := ⟨ordCs h X X.length, (List.range X.length).map (ordE h X), (List.range X.length).map (ordB h X)⟩
theorem ordRow_succ (h : Int) (X : List Part2) (i k : Nat) : ordRow h X i (k + 1) = ordRow h X i k ++ [ordD h X i k] := by simp [ordRow, List.range_succ]
theorem ordCs_succ (h : Int) (X : List Part2) (k : Nat) : ordCs h X (k + 1) = ordCs h X k ++ [ordRow h X k X.length] := by simp [ordCs, List.range_succ]
theorem ordRow_len (h : Int) (X : List Part2) (i k : Nat) : (ordRow h X i k).length = k := by simp [ordRow]
theorem ordCs_len (h : Int) (X : List Part2) (k : Nat) : (ordCs h X k).length = k := by simp [ordCs]
theorem ordCs_at (h : Int) (X : List Part2) (i j : Nat) : ((ordCs h X X.length).getD i []).getD j 0 = if i < X.length ∧ j < X.length then ordD h X i j else 0 := cost_at (n := X.length) (D := ordD h X) i j
theorem RoutOk.dist {h : Int} {X : List Part2} (R : RoutOk h X) : (∀ i j, i < X.length → j < X.length → 0 ≤ ordD h X i j ∧ ordD h X i j ≤ 1024) ∧ (∀ i, i < X.length → 0 ≤ ordE h X i ∧ ordE h X i ≤ 1024) ∧ (∀ i, i < X.length → 0 ≤ ordB h X i ∧ ordB h X i ≤ 1024) := by
  refine ⟨fun i j hi hj => ?_, fun i hi => ?_, fun i hi => ?_⟩
  · have := short_le R.hh (R.st hi) (R.st hj); unfold ordD; omega
  · have := short_le R.hh R.gr (R.st hi); unfold ordE; omega
  · have := short_le R.hh (R.st hi) R.gr; unfold ordB; omega
theorem ordF_cost {h : Int} {X : List Part2} (R : RoutOk h X) (O : List Int) (k : Nat) : 0 ≤ costO (ordF h X) O k ∧ costO (ordF h X) O k ≤ 1024 := by
  obtain ⟨h1, h2, h3⟩ := R.dist
  unfold costO
  by_cases hO : O = []
  · rw [if_pos hO]
    have e : (ordF h X).first.getD k 0 = if k < X.length then ordE h X k else 0 := range_at X.length _ k
    rw [e]
    by_cases hk : k < X.length
    · rw [if_pos hk]; exact h2 k hk
    · rw [if_neg hk]; omega
  · rw [if_neg hO]
    have e : ((ordF h X).costs.getD (lastI O) []).getD k 0 = if lastI O < X.length ∧ k < X.length then ordD h X (lastI O) k else 0 := ordCs_at h X _ _
    rw [e]
    by_cases hk : lastI O < X.length ∧ k < X.length
    · rw [if_pos hk]; exact h1 _ _ hk.1 hk.2
    · rw [if_neg hk]; omega
theorem ordF_last {h : Int} {X : List Part2} (R : RoutOk h X) (k : Nat) : 0 ≤ (ordF h X).last.getD k 0 ∧ (ordF h X).last.getD k 0 ≤ 1024 := by
  have e : (ordF h X).last.getD k 0 = if k < X.length then ordB h X k else 0 := range_at X.length _ k
  rw [e]
  by_cases hk : k < X.length
  · rw [if_pos hk]; exact R.dist.2.2 k hk
  · rw [if_neg hk]; omega
theorem ordF_bd {h : Int} {X : List Part2} (R : RoutOk h X) : BdF (ordF h X) X.length :=
  ⟨by simp [ordF], by have := R.hl; omega, fun O k => by have := ordF_cost R O k; omega, fun k => by have := ordF_last R k; omega⟩
noncomputable def ordN (h : Int) (X : List Part2) : Option (List Int × Int) := walkO (ordF h X) X.length [] 0 none
theorem ord_some {h : Int} {X : List Part2} (R : RoutOk h X) : ∃ q, ordN h X = some q ∧ PathO X.length q.1 ∧ q.1.length = X.length ∧ 0 ≤ q.2 ∧ q.2 ≤ 100000000 := by
  have hB := ordF_bd R
  obtain ⟨m, hm⟩ : ∃ m, X.length = m + 1 := ⟨X.length - 1, by have := R.hl; omega⟩
  have hne : ∃ q, ordN h X = some q := by
    unfold ordN
    rw [hm, walkO_succ _ m [] 0 none rfl, hB.hf, hm]
    have key : ∀ k, k ≤ m → ∃ q, foldO (ordF h X) m [] 0 none (k + 1) = some q := by
      intro k
      induction k with
      | zero =>
        intro _
        rw [foldO_succ, foldO_zero]
        unfold roundO
        rw [if_neg (by simp)]
        obtain ⟨q, hq, -⟩ := walkO_reach (ordF h X) 1024 (by decide) (fun O k _ => (ordF_cost R O k).2) (fun k => (ordF_last R k).2) m [((0 : Nat) : Int)] (0 + costO (ordF h X) [] 0) none (by simp) (by rw [hB.hf, hm]; exact ⟨by simp, by intro x hx; simp at hx; subst hx; omega⟩) (by rw [hB.hf, hm]; simp; omega)
        exact ⟨q, hq⟩
      | succ k ih =>
        intro hk
        obtain ⟨q, hq⟩ := ih (by omega)
        rw [foldO_succ, hq]
        unfold roundO
        rw [if_neg (by simp)]
        obtain ⟨r, hr, -⟩ := walkO_some (ordF h X) m ([] ++ [((k + 1 : Nat) : Int)]) (0 + costO (ordF h X) [] (k + 1)) q
        exact ⟨r, hr⟩
    exact key m (Nat.le_refl _)
  obtain ⟨q, hq⟩ := hne
  have hk := walkO_ok (ordF h X) X.length [] 0 none (by rw [hB.hf]; exact PathO.nil _) (by rw [hB.hf]; simp) (by simp [pathC]) True.intro
  have hnn := walkO_nn hB X.length [] 0 none (by simp) (by simp) NnO.none
  have hq' : walkO (ordF h X) X.length [] 0 none = some q := hq
  rw [hq'] at hk hnn
  obtain ⟨h1, h2, -⟩ := hk
  rw [hB.hf] at h1 h2
  exact ⟨q, hq, h1, h2, (hnn q rfl).1, (hnn q rfl).2⟩
/-- the beats of the parts -/
def beatN (X : List Part2) (k : Nat) : Int := sumN (fun i => timR X i * ((patR X i).length : Int)) k
/-- what ShortestOrder answers -/
noncomputable def soX (h : Int) (X : List Part2) : List Int := bif validR h X then bstO (ordN h X) else []
noncomputable def soL (h : Int) (X : List Part2) : Int := bif validR h X then lstO 0 (ordN h X) + beatN X X.length else 0
noncomputable def soC (h : Int) (X : List Part2) : Int := bif validR h X then 0 else 1
theorem so_yes {h : Int} {X : List Part2} (hv : validR h X = true) : soX h X = bstO (ordN h X) ∧ soL h X = lstO 0 (ordN h X) + beatN X X.length ∧ soC h X = 0 := by unfold soX soL soC; rw [hv]; exact ⟨rfl, rfl, rfl⟩
theorem so_no {h : Int} {X : List Part2} (hv : validR h X = false) : soX h X = [] ∧ soL h X = 0 ∧ soC h X = 1 := by unfold soX soL soC; rw [hv]; exact ⟨rfl, rfl, rfl⟩
theorem RoutOk.entryAt {h : Int} {X : List Part2} (R : RoutOk h X) {k : Nat} (hk : k < X.length) : ((entryL (patR X k) h).length : Int) = ordE h X k ∧ ((exitL (patR X k) h).length : Int) = ordB h X k ∧ brC (patR X k) (patR X k) h = 0 := by
  have hb := R.br hk hk
  have e1 : entryL (patR X k) h = shortL h (grR X) (stR h X k) := by unfold entryL; rw [hb, R.hn k hk]; rfl
  have e2 : exitL (patR X k) h = shortL h (stR h X k) (grR X) := by unfold exitL; rw [hb, R.hn k hk]; rfl
  exact ⟨by rw [e1]; rfl, by rw [e2]; rfl, hb⟩
/-- rows of numbers, each laid for itself -/
structure Cst (ES e : TypeId) (lo : Nat) (w : World) (v : Value) (X : List (List Int)) (vs : List Value) : Prop where
  ow : w.ownsRow lo ES 1 v X.length vs
  row : ∀ i, i < X.length → OwnI e lo w (vs.getD i undef) (X.getD i [])
  ne : ∀ i b, i < X.length → (vs.getD i undef).ownBlock = some b → v.ownBlock ≠ some b
def cstB (v : Value) (X : List (List Int)) (vs : List Value) (k : Nat) : Prop := v.ownBlock = some k ∨ ∃ i, i < X.length ∧ (vs.getD i undef).ownBlock = some k
section
variable {ES e : TypeId} {lo : Nat} {w w' : World} {v v' u : Value} {X : List (List Int)} {vs : List Value} {y : List Int}
theorem Cst.lt (h : Cst ES e lo w v X vs) : ∀ k, cstB v X vs k → lo ≤ k ∧ k < w.heap.size := fun k hk => by
  rcases hk with hk | ⟨i, hi, hk⟩
  · exact World.ownsRow.lt h.ow k hk
  · exact World.ownsRow.lt (h.row i hi) k hk
theorem Cst.below (h : Cst ES e lo w v X vs) (hb : Below w.heap.size w w') : Cst ES e lo w' v X vs := ⟨owns_below h.ow hb, fun i hi => (h.row i hi).below hb, h.ne⟩
theorem Cst.grown {r : Option Nat} (h : Cst ES e lo w v X vs) (hg : w.grownBy w' r) (hr : ∀ k, r = some k → ¬ cstB v X vs k) : Cst ES e lo w' v X vs :=
  ⟨owns_block h.ow fun k hk => hg.block k (World.ownsRow.lt h.ow k hk).2 (fun e => hr k e.symm (Or.inl hk)), fun i hi => (h.row i hi).far hg (fun k hk e => hr k e (Or.inr ⟨i, hi, hk⟩)), h.ne⟩
theorem Cst.set {g j : Nat} {x : Value} (h : Cst ES e lo w v X vs) (hg : ¬ cstB v X vs g) : Cst ES e lo (w.setCell ⟨g, j, none⟩ x) v X vs :=
  ⟨owns_block h.ow fun k hk => heap_setCell_other w _ k _ (fun e => hg (Or.inl (by have e' : k = g := e; exact e' ▸ hk))), fun i hi => (h.row i hi).setFar (fun k hk e => hg (Or.inr ⟨i, hi, by subst e; exact hk⟩)) _, h.ne⟩
theorem Cst.nil : Cst ES e lo w (.slice none 0 0) [] [] := ⟨World.ownsRow_nil w lo ES 1, fun i hi => by simp at hi, fun i b hi => by simp at hi⟩
theorem getD_app (vs : List Value) (u : Value) (n i : Nat) (hn : vs.length = n) (hi : i < n + 1) : (vs ++ [u]).getD i undef = if i = n then u else vs.getD i undef := by
  by_cases h : i = n
  · subst h; rw [if_pos rfl, ← hn]; simp [List.getD]
  · rw [if_neg h, List.getD_eq_getElem?_getD, List.getElem?_append_left (by omega), List.getD_eq_getElem?_getD]
theorem getD_appL (X : List (List Int)) (y : List Int) (i : Nat) (hi : i < X.length + 1) : (X ++ [y]).getD i [] = if i = X.length then y else X.getD i [] := by
  by_cases h : i = X.length
  · subst h; rw [if_pos rfl]; simp [List.getD]
  · rw [if_neg h, List.getD_eq_getElem?_getD, List.getElem?_append_left (by omega), List.getD_eq_getElem?_getD]
/-- a row appended; it is a row of its own -/
theorem push_cst {P : Program} {ops : Array Oper} {rest : List Oper} {o : Oper} {a : Act} {Q : Exit → Act → World → Prop} (hgd : o.guard = none) (s x : Operand) (t : TypeId)
    (ho : o.op = .call { callee := .builtin .append, args := #[s, x], argTypes := #[t, t] })
    (ht : P.underlying t = some (.slice ES)) (hinfo : (P.info? ES).map (fun i => (i.zero, i.size, i.bytes)) = some (some (.slice none 0 0), 1, 24))
    (v u : Value) (X : List (List Int)) (vs : List Value) (y : List Int) (w0 : World) (hs : a.eval s = v) (hx : a.eval x = .slice (some ⟨w0.heap.size, 0, none⟩) 1 1)
    (hown : Cst ES e lo w0 v X vs) (hu : OwnI e lo w0 u y) (hne : ∀ b, u.ownBlock = some b → ¬ cstB v X vs b) (hone : u.oneCell' = true) (hlen : X.length < 1000000000) (hB : lo ≤ w0.heap.size)
    (h : ∀ v' w', Cst ES e lo w' v' (X ++ [y]) (vs ++ [u]) → w0.grownBy w' v.ownBlock → (v'.ownBlock = v.ownBlock ∨ v'.ownBlock = some (w0.heap.size + 1)) → w0.heap.size < w'.heap.size → wpList P ops Q rest (a.put o.dst v') w') :
    wpList P ops Q (o :: rest) a (w0.alloc (.cells #[u] ES)) := by
  obtain ⟨i0, hi0, hz0, hz1, hz2⟩ := info_parts hinfo
  have hvl : vs.length = X.length := by have := hown.ow.1; simpa using this
  refine wpList_append_own_at (w := _) hgd s x t ho lo ES i0 (.slice none 0 0) 1 24 ht hi0 hz0 hz1 hz2 rfl (by decide) v X.length vs hs (World.ownsRow.alloc hown.ow _) ⟨w0.heap.size, 0, none⟩ 1 1 [u] hx rfl ?_ ?_ ?_ ?_ ?_ ?_
  · exact cell_one_new _ _ _
  · intro q hq; simp at hq; subst hq; exact hone
  · unfold maxLen; omega
  · omega
  · simp; omega
  · intro v' w' ho' hg _ hat
    have hgg := grownBy_trans (World.grownBy_alloc w0 (.cells #[u] ES) v.ownBlock) hg
    have hat' : v'.ownBlock = v.ownBlock ∨ v'.ownBlock = some (w0.heap.size + 1) := by simpa using hat
    refine h v' w' ⟨by rw [List.length_append]; exact ho', fun i hi => ?_, fun i b hi hb => ?_⟩ hgg hat' (by have := hg.size; simp at this; omega)
    · rw [List.length_append, List.length_singleton] at hi
      rw [getD_app vs u X.length i hvl hi, getD_appL X y i hi]
      by_cases e1 : i = X.length
      · rw [if_pos e1, if_pos e1]
        exact hu.far hgg (fun k hk e2 => hne k hk (Or.inl e2))
      · rw [if_neg e1, if_neg e1]
        exact (hown.row i (by omega)).far hgg (fun k hk e2 => hown.ne i k (by omega) hk e2)
    · rw [List.length_append, List.length_singleton] at hi
      rw [getD_app vs u X.length i hvl hi] at hb
      intro hv
      have hold : v.ownBlock ≠ some b ∧ b < w0.heap.size := by
        by_cases e1 : i = X.length
        · rw [if_pos e1] at hb; exact ⟨fun e2 => hne b hb (Or.inl e2), (World.ownsRow.lt hu b hb).2⟩
        · rw [if_neg e1] at hb; exact ⟨hown.ne i b (by omega) hb, (World.ownsRow.lt (hown.row i (by omega)) b hb).2⟩
      rcases hat' with e2 | e2
      · exact hold.1 (e2 ▸ hv)
      · rw [e2] at hv; simp only [Option.some.injEq] at hv; omega
theorem cstB_app (hvl : vs.length = X.length) {k : Nat} (hk : cstB v' (X ++ [y]) (vs ++ [u]) k) : v'.ownBlock = some k ∨ cstB v X vs k ∨ u.ownBlock = some k := by
  rcases hk with hk | ⟨i, hi, hk⟩
  · exact Or.inl hk
  · rw [List.length_append, List.length_singleton] at hi
    rw [getD_app vs u X.length i hvl hi] at hk
    by_cases e1 : i = X.length
    · rw [if_pos e1] at hk; exact Or.inr (Or.inr hk)
    · rw [if_neg e1] at hk; exact Or.inr (Or.inl (Or.inr ⟨i, by omega, hk⟩))
end
end Go.Proofs.Ytgcmnpimkfmccaa
end
section
namespace Go.Proofs.Ytgcmnpimkfmccaa
open Go.ChangeShapes Go.WideShapes Go.ChangeAt Go.RowKit
set_option linter.unusedVariables false
structure Bl3 (ES e : TypeId) (bo bu n : Nat) (W0 : World) (R : Nat → Value) (w : World) (v1 v2 : Value) (L1 L2 : List Int) (X : List (List Int)) (vs : List Value) : Prop where
  b : Bld e bo bu n W0 R (fun _ => false) w v1 v2 v1 v2 L1 L2
  c : Cst ES e W0.heap.size w (R 0) X vs
  s : ∀ k, cstB (R 0) X vs k → k ≠ bo ∧ k ≠ bu ∧ v1.ownBlock ≠ some k ∧ v2.ownBlock ≠ some k
section
variable {ES e : TypeId} {bo bu n : Nat} {W0 : World} {R : Nat → Value} {w w' : World} {v1 v2 v' u : Value} {L1 L2 L' : List Int} {X : List (List Int)} {vs : List Value} {y : List Int}
theorem Bl3.below (h : Bl3 ES e bo bu n W0 R w v1 v2 L1 L2 X vs) (hb : Below w.heap.size w w') : Bl3 ES e bo bu n W0 R w' v1 v2 L1 L2 X vs := ⟨h.b.below hb, h.c.below hb, h.s⟩
theorem Bl3.grow1 (h : Bl3 ES e bo bu n W0 R w v1 v2 L1 L2 X vs) (ho : OwnI e W0.heap.size w' v' L') (hg : w.grownBy w' v1.ownBlock) (hat : v'.ownBlock = v1.ownBlock ∨ ∀ k, v'.ownBlock = some k → w.heap.size ≤ k) (hlu : bu < w.heap.size) :
    Bld e bo bu n W0 R (fun _ => false) w' v1 v2 v' v2 L' L2 ∧ Bl3 ES e bo bu n W0 R (w'.setCell ⟨bo, 1, none⟩ v') v' v2 L' L2 X vs := by
  have h1 := h.b.grow1 ho hg hat hlu
  refine ⟨h1, h1.put1 v', (h.c.grown hg fun k hk hc => (h.s k hc).2.2.1 hk).set (fun hc => (h.s bo hc).1 rfl), fun k hk => ?_⟩
  obtain ⟨a1, a2, a3, a4⟩ := h.s k hk
  refine ⟨a1, a2, fun e1 => ?_, a4⟩
  rcases hat with e2 | e2
  · exact a3 (e2 ▸ e1)
  · have := e2 k e1
    have := (h.c.lt k hk).2
    omega
theorem Bl3.grow2 (h : Bl3 ES e bo bu n W0 R w v1 v2 L1 L2 X vs) (ho : OwnI e W0.heap.size w' v' L') (hg : w.grownBy w' v2.ownBlock) (hat : v'.ownBlock = v2.ownBlock ∨ ∀ k, v'.ownBlock = some k → w.heap.size ≤ k) (hlu : bu < w.heap.size) :
    Bld e bo bu n W0 R (fun _ => false) w' v1 v2 v1 v' L1 L' ∧ Bl3 ES e bo bu n W0 R (w'.setCell ⟨bo, 2, none⟩ v') v1 v' L1 L' X vs := by
  have h1 := h.b.grow2 ho hg hat hlu
  refine ⟨h1, h1.put2 v', (h.c.grown hg fun k hk hc => (h.s k hc).2.2.2 hk).set (fun hc => (h.s bo hc).1 rfl), fun k hk => ?_⟩
  obtain ⟨a1, a2, a3, a4⟩ := h.s k hk
  refine ⟨a1, a2, a3, fun e1 => ?_⟩
  rcases hat with e2 | e2
  · exact a4 (e2 ▸ e1)
  · have := e2 k e1
    have := (h.c.lt k hk).2
    omega
theorem Bl3.cost (h : Bl3 ES e bo bu n W0 R w v1 v2 L1 L2 X vs) (hc : Cst ES e W0.heap.size w' v' (X ++ [y]) (vs ++ [u])) (hg : w.grownBy w' (R 0).ownBlock) (hat : v'.ownBlock = (R 0).ownBlock ∨ ∀ k, v'.ownBlock = some k → w.heap.size ≤ k)
    (hu : ∀ k, u.ownBlock = some k → k ≠ bo ∧ k ≠ bu ∧ v1.ownBlock ≠ some k ∧ v2.ownBlock ≠ some k) (hlu : bu < w.heap.size) :
    Bld e bo bu n W0 R (fun _ => false) w' v1 v2 v1 v2 L1 L2 ∧ Bl3 ES e bo bu n W0 (fun i => if i = 0 then v' else R i) (w'.setCell ⟨bo, 0, none⟩ v') v1 v2 L1 L2 (X ++ [y]) (vs ++ [u]) := by
  have hl := h.b.lbo
  have s0 : ∀ k, (R 0).ownBlock = some k → k ≠ bo ∧ k ≠ bu ∧ v1.ownBlock ≠ some k ∧ v2.ownBlock ≠ some k := fun k hk => h.s k (Or.inl hk)
  have hbo : (R 0).ownBlock ≠ some bo := fun e => (s0 bo e).1 rfl
  have hbu : (R 0).ownBlock ≠ some bu := fun e => (s0 bu e).2.1 rfl
  have h1 : Bld e bo bu n W0 R (fun _ => false) w' v1 v2 v1 v2 L1 L2 :=
    ⟨h.b.bel.grown hg h.b.bel.size (fun k hk => (World.ownsRow.lt h.c.ow k hk).1), grownB hg h.b.c1 hbo, grownB hg h.b.c2 hbo, fun i hi h1 h2 => grownB hg (h.b.cr i hi h1 h2) hbo, fun i hi => (World.frozen?_of_block (w := w) (hg.block bo hl (fun e => hbo e.symm))).trans (h.b.fr i hi),
      fun k hk => ⟨grownB hg (h.b.us k hk).1 hbu, grownF hg (h.b.us k hk).1 (h.b.us k hk).2 hbu⟩, h.b.o1.far hg (fun k hk e => (s0 k e).2.2.1 hk), h.b.o2.far hg (fun k hk e => (s0 k e).2.2.2 hk), h.b.d1, h.b.d2, h.b.hbo, h.b.hbu, h.b.ne⟩
  have hvl : vs.length = X.length := by have := h.c.ow.1; simpa using this
  have hs' : ∀ k, cstB v' (X ++ [y]) (vs ++ [u]) k → k ≠ bo ∧ k ≠ bu ∧ v1.ownBlock ≠ some k ∧ v2.ownBlock ≠ some k := fun k hk => by
    rcases cstB_app (v := R 0) hvl hk with e1 | e1 | e1
    · rcases hat with e2 | e2
      · exact s0 k (e2 ▸ e1)
      · have := e2 k e1
        exact ⟨by omega, by omega, fun e3 => by have := (World.ownsRow.lt h.b.o1 k e3).2; omega, fun e3 => by have := (World.ownsRow.lt h.b.o2 k e3).2; omega⟩
    · exact h.s k e1
    · exact hu k e1
  refine ⟨h1, ⟨⟨h1.bel.setCell h1.hbo _, setCellO w' h1.c1 (Or.inr (by decide)), setCellO w' h1.c2 (Or.inr (by decide)), fun i hi n1 n2 => ?_, fun i hi => setCellF (h1.fr i hi), h1.us.other (fun e => h1.ne e.symm), h1.o1.setFar (fun q hq => (h1.d1 q hq).1) _, h1.o2.setFar (fun q hq => (h1.d2 q hq).1) _, h1.d1, h1.d2, h1.hbo, h1.hbu, h1.ne⟩, hc.set (fun hb => (hs' bo hb).1 rfl), hs'⟩⟩
  by_cases e0 : i = 0
  · subst e0; rw [if_pos rfl]; exact World.cell?_setCell_same w' _ _ (h1.cr 0 (by decide) (by decide) (by decide))
  · rw [if_neg e0]; exact setCellO w' (h1.cr i hi n1 n2) (Or.inr e0)
theorem Bl3.far {F : Far} {D : Nat → Prop} (h : Bl3 ES e bo bu n W0 R w v1 v2 F.first F.last X vs) (hn : 1 ≤ n) (h1 : F.first.length = n) (h2 : F.last.length = n) (h3 : X.length = n) (hX : F.costs = X) (hr : ∀ i, i < n → (X.getD i []).length = n)
    (hD : ∀ k, D k → k = bo ∨ k = bu) : RdFar D n w (R 0) v1 v2 F := by
  have hvl : vs.length = X.length := by have := h.c.ow.1; simpa using this
  refine ⟨?_, ?_, ?_⟩
  · rcases h.c.ow.2 with ⟨-, hz⟩ | ⟨g, cap, cur, hv, -⟩
    · omega
    · rw [hv]
      refine ⟨g, 0, cap, by rw [h3], fun i hi => ?_⟩
      rcases (h.c.row i (by omega)).shape with ⟨-, hnil⟩ | ⟨gi, ci, he, -, -, -, -, hcr, -⟩
      · have := hr i hi; rw [hnil] at this; simp at this; omega
      · refine ⟨gi, 0, ci, fun d => ?_, fun d => ?_, ?_, fun j hj => ?_⟩
        · have := h.s g (Or.inl (by rw [hv]; rfl))
          rcases hD g d with e1 | e1
          · exact this.1 e1
          · exact this.2.1 e1
        · have := h.s gi (Or.inr ⟨i, by omega, by rw [he]; rfl⟩)
          rcases hD gi d with e1 | e1
          · exact this.1 e1
          · exact this.2.1 e1
        · rw [Nat.zero_add]
          have hcell := World.ownsRow.cellAt (g := g) (w := w) (by have := h.c.ow; rw [hv] at this; exact this) i (by omega)
          rw [hcell]
          rw [hr i hi] at he
          rw [← he, List.getD_eq_getElem?_getD, List.getElem?_eq_getElem (by omega)]; rfl
        · rw [Nat.zero_add, hX]; exact hcr j (by rw [hr i hi]; exact hj)
  · rcases h.b.o1.shape with ⟨-, hnil⟩ | ⟨g1, cap1, rfl, -, -, -, -, hcr, -⟩
    · rw [hnil] at h1; simp at h1; omega
    · rw [h1]
      refine ⟨g1, 0, cap1, rfl, fun d => ?_, fun j hj => by rw [Nat.zero_add]; exact hcr j (by omega)⟩
      have := h.b.d1 g1 rfl
      rcases hD g1 d with e1 | e1
      · exact this.1 e1
      · exact this.2.1 e1
  · rcases h.b.o2.shape with ⟨-, hnil⟩ | ⟨g1, cap1, rfl, -, -, -, -, hcr, -⟩
    · rw [hnil] at h2; simp at h2; omega
    · rw [h2]
      refine ⟨g1, 0, cap1, rfl, fun d => ?_, fun j hj => by rw [Nat.zero_add]; exact hcr j (by omega)⟩
      have := h.b.d2 g1 rfl
      rcases hD g1 d with e1 | e1
      · exact this.1 e1
      · exact this.2 e1
end
end Go.Proofs.Ytgcmnpimkfmccaa
end
section
namespace Go.Proofs.Ytgcmnpimkfmccaa
open Go.ChangeShapes Go.WideShapes Go.ChangeAt Go.RowKit
set_option linter.unusedSimpArgs false
set_option linter.unusedVariables false
theorem updS_below2 {D : Nat → Prop} {B : Nat} {a b c : World} (h : Below B a b) (u : UpdS D b c) (hB : B ≤ b.heap.size) (hD : ∀ k, D k → B ≤ k) : Below B a c :=
  h.trans (Upd.below (lo := B) (hi := b.heap.size) (u.upd (fun k hk d => ⟨hD k d, hk⟩)) (Nat.le_refl _) hB)
theorem take_rowO {L : List Int} {k : Nat} (hk : k < L.length) : L.take (k + 1) = L.take k ++ [L.getD k 0] := by
  rw [List.take_add_one, List.getElem?_eq_getElem hk]; simp [List.getD, hk]
theorem hat_ge {v' v : Value} {w : World} {m : Nat} (h : v'.ownBlock = v.ownBlock ∨ v'.ownBlock = some m) (hm : w.heap.size ≤ m) : v'.ownBlock = v.ownBlock ∨ ∀ k, v'.ownBlock = some k → w.heap.size ≤ k := by
  rcases h with h | h
  · exact Or.inl h
  · exact Or.inr (fun k hk => by rw [h] at hk; simp only [Option.some.injEq] at hk; omega)
theorem cst_form {ES e : TypeId} {lo : Nat} {w : World} {v : Value} {X : List (List Int)} {vs : List Value} (h : Cst ES e lo w v X vs) : ∃ a c, v = .slice a X.length c := by
  rcases h.ow.2 with ⟨hv, hn⟩ | ⟨g, cap, cur, hv, -⟩
  · exact ⟨none, 0, by rw [hv, hn]⟩
  · exact ⟨_, _, hv⟩
theorem pat_len12 {h : Int} {X : List Part2} (R : RoutOk h X) {k : Nat} (hk : k < X.length) : 1 ≤ (patR X k).length ∧ (patR X k).length ≤ 12 := (validP_iff.1 (R.hv k hk)).1.2
theorem beat_bd {h : Int} {X : List Part2} (R : RoutOk h X) : ∀ k, k ≤ X.length → 0 ≤ beatN X k ∧ beatN X k ≤ 240 * k := by
  intro k
  induction k with
  | zero => intro _; simp [beatN, sumN]
  | succ k ih =>
    intro hk
    have h0 := ih (by omega)
    have h1 := pat_len12 R (k := k) (by omega)
    have h2 := R.ht k (by omega)
    have h3 : timR X k * ((patR X k).length : Int) ≤ 20 * 12 := Int.mul_le_mul (by omega) (by omega) (by omega) (by omega)
    have h4 : 0 ≤ timR X k * ((patR X k).length : Int) := Int.mul_nonneg (by omega) (by omega)
    have e : beatN X (k + 1) = beatN X k + timR X k * ((patR X k).length : Int) := rfl
    rw [e]
    omega
set_option maxHeartbeats 2000000 in
set_option maxRecDepth 100000 in
theorem c_spec_ShortestOrder (X : List Part2) (h : Int) (v : Value) (w : World) (hr : RdP w v X) :
    Calls Try.prog 8 #[.agg #[.int .i64 h, v]] w fun e w' => ∃ u, e = .returned (.tuple #[u, .int .i64 (soL h X), .int .i64 (soC h X)]) ∧ OwnI1 w.heap.size w' u (soX h X) ∧ Below w.heap.size w w' := by
  obtain ⟨W0, hW0, k0, k1, B0⟩ := routOf w 26 h v
  have hr0 := hr.below B0
  have hr' := hr
  obtain ⟨a1, cap1, rfl, -, -⟩ := hr'
  cases hv : validR h X
  · have HC := Lib.hid (so_no hv)
    go_enter Try.func8, Try.ntmps8
    go_wp2_with fail
    rw [← hW0]
    clear hW0
    refine (c_spec_l19Ok X h _ _ _ hr0 k0 k1).mono ?_; rintro e w1 ⟨rfl, hb1⟩; rw [hv]
    go_wp2
    go_ret3
    exact ⟨_, by rw [HC.out.2.1, HC.out.2.2]; rfl, by rw [HC.out.1]; exact OwnI.nil _ rfl, B0.tr hb1⟩
  · have R := rout_ok hv
    have HY := Lib.hid (so_yes hv)
    obtain ⟨q, hq, hqp, hql, hq0, hq1⟩ := ord_some R
    have HQ := Lib.hid hq
    have HW : Hid (walkO (ordF h X) X.length [] 0 none = some q) := hq
    have HB := Lib.hid (ordF_bd R)
    have HEN := Lib.hid (fun k (hk : k < X.length) => R.entryAt hk)
    have HDI := Lib.hid R.dist
    have HBT := Lib.hid (beat_bd R)
    have HPL := Lib.hid (fun k (hk : k < X.length) => pat_len12 R hk)
    have HTM := Lib.hid R.ht
    have HBR := Lib.hid (fun i j hi hj => R.br (i := i) (j := j) hi hj)
    have hxl := R.hl
    have HF : Hid ((ordF h X).first.length = X.length ∧ (ordF h X).last.length = X.length) := by unfold Hid; simp [ordF]
    have HF1 : Hid (∀ k, k < X.length → (ordF h X).first.take (k + 1) = (ordF h X).first.take k ++ [ordE h X k]) := by
      intro k hk
      rw [take_rowO (by rw [HF.out.1]; exact hk)]
      have e : (ordF h X).first.getD k 0 = if k < X.length then ordE h X k else 0 := range_at X.length _ k
      rw [e, if_pos hk]
    have HF2 : Hid (∀ k, k < X.length → (ordF h X).last.take (k + 1) = (ordF h X).last.take k ++ [ordB h X k]) := by
      intro k hk
      rw [take_rowO (by rw [HF.out.2]; exact hk)]
      have e : (ordF h X).last.getD k 0 = if k < X.length then ordB h X k else 0 := range_at X.length _ k
      rw [e, if_pos hk]
    have HFC : Hid ((ordF h X).costs = ordCs h X X.length) := rfl
    obtain ⟨F, HFF⟩ : ∃ F, Hid (ordF h X = F) := ⟨_, rfl⟩
    rw [HFF.out] at HF HF1 HF2 HFC HW HB
    obtain ⟨n, Hn⟩ : ∃ n, Hid (X.length = n) := ⟨_, rfl⟩
    have HR := Lib.hid R
    rw [Hn.out] at hxl
    have HQB : Hid (True ∧ True ∧ True ∧ 0 ≤ q.2 ∧ q.2 ≤ 100000000) := ⟨trivial, trivial, trivial, hq0, hq1⟩
    clear R hq hqp hql hq0 hq1
    go_enter Try.func8, Try.ntmps8
    go_wp2_with fail
    rw [← hW0]
    clear hW0
    refine (c_spec_l19Ok X h _ _ _ hr0 k0 k1).mono ?_; rintro e w1 ⟨rfl, hb1⟩; rw [hv]
    clear hv
    have k0 := cellB hb1 k0
    have k1 := cellB hb1 k1
    have HRW := Lib.hid (hr0.below hb1)
    have HK := Lib.hid (And.intro k0 k1)
    have HBB := Lib.hid (B0.tr hb1)
    have hbr : w.heap.size < w1.heap.size := World.block_lt_of_cell? w1 _ k0
    clear hb1 hr0 hr
    have hnl : (n : Int) ≤ 8 := by omega
    rw [Hn.out] at k1
    rw [Hn.out]
    go_wp2_with (at_make; refine make_bool rfl _ _ _ _ rfl Try.underlying40 (by kernel_rfl) w1.heap.size _ _ _ _ _ n rfl rfl rfl rfl (by omega) (Nat.le_refl _) ?_; intro w2 hbs hbel hsz1; refine stop_of ?_)
    unfold Stopped
    have B1 := hbel w1 (Below.refl _ _)
    obtain ⟨R, HRR⟩ : ∃ R : Nat → Value, Hid (R = fun i => if i = 3 then .slice (some ⟨w1.heap.size, 0, none⟩) n n else if i = 6 then .int .i64 (-1) else .slice none 0 0) := ⟨_, rfl⟩
    obtain ⟨W2, hW2⟩ : ∃ W2, W2 = w2.alloc (Obj.cells #[.slice none 0 0, .slice none 0 0, .slice none 0 0, .slice (some ⟨w1.heap.size, 0, none⟩) n n, .slice none 0 0, .slice none 0 0, .int .i64 (-1)] 79) := ⟨_, rfl⟩
    have BL : Bl3 28 2 w2.heap.size w1.heap.size n w1 R W2 (.slice none 0 0) (.slice none 0 0) [] [] [] [] := by
      have hal : Below w2.heap.size w2 W2 := by rw [hW2]; exact (Below.refl _ _).al _
      refine ⟨⟨B1.tr hal, ?_, ?_, fun i hi h1 h2 => ?_, fun i hi => ?_, hbs.below hal, OwnI.nil _ rfl, OwnI.nil _ rfl, fun k hk => by simp [Value.ownBlock] at hk, fun k hk => by simp [Value.ownBlock] at hk, by omega, Nat.le_refl _, by omega⟩, ?_, fun k hk => ?_⟩
      · rw [hW2]; exact World.cell?_alloc_at _ _ _ _ rfl
      · rw [hW2]; exact World.cell?_alloc_at _ _ _ _ rfl
      · rw [hW2, HRR.out]
        have : i = 0 ∨ i = 3 ∨ i = 4 ∨ i = 5 ∨ i = 6 := by omega
        rcases this with rfl | rfl | rfl | rfl | rfl <;> exact World.cell?_alloc_at _ _ _ _ rfl
      · rw [hW2]; go_simp
      · rw [HRR.out]; exact Cst.nil
      · rw [HRR.out] at hk
        rcases hk with hk | ⟨i, hi, -⟩
        · simp [Value.ownBlock] at hk
        · simp at hi
    have hluW : w1.heap.size < W2.heap.size := by rw [hW2]; simp; omega
    have HBL := Lib.hid BL
    clear BL hbs hbel
    obtain ⟨bo, HBo⟩ : ∃ bo, Hid (w2.heap.size = bo) := ⟨_, rfl⟩
    rw [HBo.out] at HBL
    go_wp2_with fail
    rw [← hW2]
    rw [show w2.heap.size = bo from HBo.out]
    clear hW2
    have HRI : Hid (R 3 = .slice (some ⟨w1.heap.size, 0, none⟩) n n ∧ R 4 = .slice none 0 0 ∧ R 5 = .slice none 0 0 ∧ R 6 = .int .i64 (-1)) := by rw [HRR.out]; exact ⟨rfl, rfl, rfl, rfl⟩
    clear HRR
    go_loopw [6, 7] (fun be kv wr => ∃ k : Nat, k ≤ n ∧ kv = .int .i64 k ∧ be = .int .i64 (beatN X k) ∧ ∃ v1 v2 R' vs, (R' 3 = R 3 ∧ R' 4 = R 4 ∧ R' 5 = R 5 ∧ R' 6 = R 6) ∧ Bl3 28 2 bo w1.heap.size n w1 R' wr v1 v2 (F.first.take k) (F.last.take k) (ordCs h X k) vs) (fun _ kv _ => n - (intOf kv).toNat)
    case atStart => exact ⟨0, by omega, rfl, rfl, _, _, R, [], ⟨rfl, rfl, rfl, rfl⟩, by simpa [ordCs] using HBL.out⟩
    case round =>
      obtain ⟨k, hk, rfl, rfl, v1, v2, R', vs, hRR, hM⟩ := hrel
      by_cases hlt : k < n
      · -- a part
        obtain ⟨wo, hwo⟩ : ∃ wo : World, wo = wr := ⟨_, rfl⟩
        subst hwo
        have hkx : k < X.length := by rw [Hn.out]; exact hlt
        have hx1 := HRW.out
        obtain ⟨bp, op, up, ha1, x0, x1, hup⟩ := hx1.part k hkx
        subst ha1
        have hbel := hM.b.bel
        have HUP := Lib.hid hup
        obtain ⟨aup, cup, rfl, -, -⟩ := hup
        obtain ⟨e1, e2, e3⟩ := HEN.out k hkx
        obtain ⟨pl, Hpl⟩ : ∃ pl : Nat, Hid ((patR X k).length = pl) := ⟨_, rfl⟩
        have hpl := HPL.out k hkx
        have htm := HTM.out k hkx
        have hbt := HBT.out k (by omega)
        obtain ⟨tm, Htm⟩ : ∃ tm, Hid (timR X k = tm) := ⟨_, rfl⟩
        rw [Hpl.out] at x0 hpl
        rw [Htm.out] at x1 htm
        have HBE : Hid (beatN X (k + 1) = beatN X k + tm * (pl : Int)) := by unfold Hid; rw [← Hpl.out, ← Htm.out]; rfl
        obtain ⟨bk, Hbk⟩ : ∃ bk, Hid (beatN X k = bk) := ⟨_, rfl⟩
        rw [Hbk.out] at hbt HBE
        rw [Hbk.out]
        have hmul0 : 0 ≤ tm * (pl : Int) := Int.mul_nonneg (by omega) (by omega)
        have hmul1 : tm * (pl : Int) ≤ 20 * 12 := Int.mul_le_mul (by omega) (by omega) (by omega) (by omega)
        have hbk0 := hbt.1
        have hbk1 : bk ≤ 1920 := by have := hbt.2; omega
        have HX0 := Lib.hid (And.intro x0 x1)
        have hk0 : (0 : Int) ≤ (k : Int) := by omega
        have hkn : (k : Int) < (n : Int) := by omega
        obtain ⟨le, Hle⟩ : ∃ le : Nat, Hid ((entryL (patR X k) h).length = le) := ⟨_, rfl⟩
        obtain ⟨lx, Hlx⟩ : ∃ lx : Nat, Hid ((exitL (patR X k) h).length = lx) := ⟨_, rfl⟩
        have HX1 := Lib.hid (HF1.out k hkx)
        have HX2 := Lib.hid (HF2.out k hkx)
        rw [← e1, Hle.out] at HX1
        rw [← e2, Hlx.out] at HX2
        have hE := HDI.out.2.1 k hkx
        have hX := HDI.out.2.2 k hkx
        rw [← e1, Hle.out] at hE
        rw [← e2, Hlx.out] at hX
        have hle : le ≤ 1024 := by omega
        have hlx : lx ≤ 1024 := by omega
        have HM := Lib.hid hM
        have y0 := cellB hbel HK.out.1
        have y1 := cellB hbel HK.out.2
        rw [Hn.out] at y1
        have x0 := cellB hbel x0
        have hso := hbel.size
        have HBO := Lib.hid hbel
        clear hM hx1 e1 e2 e3 hbel hE hX k0 k1 x1 hbt htm
        go_wp2_with fail
        refine (c_spec_EntryOf (patR X k) h _ _ (by rw [← Hpl.out]; exact HUP.out.below HBO.out)).mono ?_; rintro e w3 ⟨u3, rfl, ho3, hb3⟩
        obtain ⟨a3, c3, rfl, -, -⟩ := ho3.rd
        rw [Hle.out]
        have y0 := cellB hb3 y0
        have y1 := cellB hb3 y1
        have B13 := Lib.hid (HBO.out.tr hb3)
        have HB3 := Lib.hid hb3
        clear ho3 hb3 x0
        go_wp2_with fail
        refine (c_spec_ExitOf (patR X k) h _ _ (by rw [← Hpl.out]; exact HUP.out.below B13.out)).mono ?_; rintro e w4 ⟨u4, rfl, ho4, hb4⟩
        obtain ⟨a4, c4, rfl, -, -⟩ := ho4.rd
        rw [Hlx.out]
        have B14 := Lib.hid (B13.out.tr hb4)
        have HB4 := Lib.hid (HB3.out.tr hb4)
        have hs14 := B14.out.size
        have hs4 := HB4.out.size
        clear ho4 hb4 y0 y1
        go_wp2_with fail
        go_loopw [13, 14] (fun row jv wi => ∃ j : Nat, j ≤ n ∧ jv = .int .i64 j ∧ OwnI1 w4.heap.size wi row (ordRow h X k j) ∧ Below w4.heap.size w4 wi) (fun _ jv _ => n - (intOf jv).toNat)
        case atStart => exact ⟨0, by omega, rfl, OwnI.made rfl rfl (Nat.le_refl _), by (repeat (first | (with_reducible assumption) | (with_reducible exact Below.refl _ _) | (with_reducible refine Below.setCell ?_ (by first | (simp; done) | (simp; omega)) _) | (with_reducible refine Below.al ?_ _) | (with_reducible refine Below.dr ?_) | (with_reducible refine Below.drN ?_ _) | (with_reducible refine Below.tr ?_ (by with_reducible assumption))))⟩
        case round =>
          obtain ⟨j, hj, rfl, hrow, hbi⟩ := hrel
          have hBI := B14.out.tr hbi
          have z0 := cellB hBI HK.out.1
          have z1 := cellB hBI HK.out.2
          rw [Hn.out] at z1
          by_cases hlj : j < n
          · have hjx : j < X.length := by rw [Hn.out]; exact hlj
            have hx2 := HRW.out
            obtain ⟨bp', op', uj, he', xj, -, huj⟩ := hx2.part j hjx
            cases he'
            have xj := cellB hBI xj
            have HUJ := Lib.hid (huj.below hBI)
            have HUK := Lib.hid (HUP.out.below hBI)
            obtain ⟨auj, cuj, rfl, -, -⟩ := huj
            have HBC := Lib.hid (HBR.out k j hkx hjx)
            have hD := HDI.out.1 k j hkx hjx
            have HRS := Lib.hid (ordRow_succ h X k j)
            obtain ⟨ld, Hld⟩ : ∃ ld : Nat, Hid ((bridgeL (patR X k) (patR X j) h).length = ld) := ⟨_, rfl⟩
            have hDl : ordD h X k j = (ld : Int) := by rw [← Hld.out]; rfl
            rw [hDl] at hD HRS
            have hld : ld ≤ 1024 := by omega
            have hj0 : (0 : Int) ≤ (j : Int) := by omega
            have hjn : (j : Int) < (n : Int) := by omega
            have hrl := ordRow_len h X k j
            have hkl : (ordRow h X k j).length < 1000000000 := by omega
            obtain ⟨arow, crow, rfl, -, -⟩ := hrow.rd
            have HRO := Lib.hid hrow
            have HBI := Lib.hid hbi
            have HZ := Lib.hid (And.intro z0 (And.intro z1 xj))
            have hsi := hbi.size
            obtain ⟨pj, Hpj⟩ : ∃ pj : Nat, Hid ((patR X j).length = pj) := ⟨_, rfl⟩
            rw [Hpj.out] at xj HZ
            clear hx2 hDl hD hrl hrow hbi hBI
            go_wp2_with fail
            refine wp_region_noPanic ?_
            refine wp_region_held_drew (S := fun w' => w'.cell? ⟨w.heap.size, 0, none⟩ = some (.int .i64 h) ∧ w'.cell? ⟨w.heap.size, 1, none⟩ = some (.slice (some ⟨bp, op, none⟩) n cap1) ∧ w'.cell? ⟨bp, op + j * 2, none⟩ = some (.slice auj pj cuj)) (by kernel_rfl) ?_ (fun hHeld => ?_)
            · exact ⟨z0, z1, xj⟩
            (refine wpAnyH_take (i := 0) (v := ?tv1) rfl (by kernel_rfl) (by kernel_rfl) (by kernel_rfl) (fun _ _ _ h => h) (Or.inl ⟨by rfl, ?thy1⟩) (by assumption) ?trest1; case thy1 => (intro w hSw; (try dsimp only at hSw); go_simp; (try with_reducible rfl)); (try simp only [Act.put, List.getElem_toArray, List.getElem_cons_zero, List.getElem_cons_succ, List.setIfInBounds_toArray, List.set_cons_zero, List.set_cons_succ])); (refine wpAnyH_take (i := 1) (v := ?tv2) rfl (by kernel_rfl) (by kernel_rfl) (by kernel_rfl) (fun _ _ _ h => h) (Or.inl ⟨by rfl, ?thy2⟩) (by assumption) ?trest2; case thy2 => (intro w hSw; (try dsimp only at hSw); go_simp; (try with_reducible rfl)); (try simp only [Act.put, List.getElem_toArray, List.getElem_cons_zero, List.getElem_cons_succ, List.setIfInBounds_toArray, List.set_cons_zero, List.set_cons_succ])); (refine wpAnyH_take (i := 2) (v := ?tv3) rfl (by kernel_rfl) (by kernel_rfl) (by kernel_rfl) (fun _ _ _ h => h) (Or.inl ⟨by rfl, ?thy3⟩) (by assumption) ?trest3; case thy3 => (intro w hSw; (try dsimp only at hSw); go_simp; (try with_reducible rfl)); (try simp only [Act.put, List.getElem_toArray, List.getElem_cons_zero, List.getElem_cons_succ, List.setIfInBounds_toArray, List.set_cons_zero, List.set_cons_succ])); (refine wpAnyH_take (i := 3) (v := ?tv4) rfl (by kernel_rfl) (by kernel_rfl) (by kernel_rfl) (fun _ _ _ h => h) (Or.inl ⟨by rfl, ?thy4⟩) (by assumption) ?trest4; case thy4 => (intro w hSw; (try dsimp only at hSw); go_simp; (try with_reducible rfl)); (try simp only [Act.put, List.getElem_toArray, List.getElem_cons_zero, List.getElem_cons_succ, List.setIfInBounds_toArray, List.set_cons_zero, List.set_cons_succ])); (refine wpAnyH_take (i := 4) (v := ?tv5) rfl (by kernel_rfl) (by kernel_rfl) (by kernel_rfl) (fun _ _ _ h => h) (Or.inl ⟨by rfl, ?thy5⟩) (by assumption) ?trest5; case thy5 => (intro w hSw; (try dsimp only at hSw); go_simp; (try with_reducible rfl)); (try simp only [Act.put, List.getElem_toArray, List.getElem_cons_zero, List.getElem_cons_succ, List.setIfInBounds_toArray, List.set_cons_zero, List.set_cons_succ])); (refine wpAnyH_take (i := 5) (v := ?tv6) rfl (by kernel_rfl) (by kernel_rfl) (by kernel_rfl) (fun _ _ _ h => h) (Or.inl ⟨by rfl, ?thy6⟩) (by assumption) ?trest6; case thy6 => (intro w hSw; (try dsimp only at hSw); go_simp; (try with_reducible rfl)); (try simp only [Act.put, List.getElem_toArray, List.getElem_cons_zero, List.getElem_cons_succ, List.setIfInBounds_toArray, List.set_cons_zero, List.set_cons_succ])); (refine wpAnyH_take (i := 6) (v := ?tv7) rfl (by kernel_rfl) (by kernel_rfl) (by kernel_rfl) (fun _ _ _ h => h) (Or.inl ⟨by rfl, ?thy7⟩) (by assumption) ?trest7; case thy7 => (intro w hSw; (try dsimp only at hSw); go_simp; (try with_reducible rfl)); (try simp only [Act.put, List.getElem_toArray, List.getElem_cons_zero, List.getElem_cons_succ, List.setIfInBounds_toArray, List.set_cons_zero, List.set_cons_succ])); (refine wpAnyH_take (i := 7) (v := ?tv8) rfl (by kernel_rfl) (by kernel_rfl) (by kernel_rfl) (fun _ _ _ h => h) (Or.inl ⟨by rfl, ?thy8⟩) (by assumption) ?trest8; case thy8 => (intro w hSw; (try dsimp only at hSw); go_simp; (try with_reducible rfl)); (try simp only [Act.put, List.getElem_toArray, List.getElem_cons_zero, List.getElem_cons_succ, List.setIfInBounds_toArray, List.set_cons_zero, List.set_cons_succ])); (refine wpAnyH_take (i := 8) (v := ?tv9) rfl (by kernel_rfl) (by kernel_rfl) (by kernel_rfl) (fun _ _ _ h => h) (Or.inl ⟨by rfl, ?thy9⟩) (by assumption) ?trest9; case thy9 => (intro w hSw; (try dsimp only at hSw); go_simp; (try with_reducible rfl)); (try simp only [Act.put, List.getElem_toArray, List.getElem_cons_zero, List.getElem_cons_succ, List.setIfInBounds_toArray, List.set_cons_zero, List.set_cons_succ])); (refine wpAnyH_take (i := 9) (v := ?tv10) rfl (by kernel_rfl) (by kernel_rfl) (by kernel_rfl) (fun _ _ _ h => h) (Or.inl ⟨by rfl, ?thy10⟩) (by assumption) ?trest10; case thy10 => (intro w hSw; (try dsimp only at hSw); go_simp; (try with_reducible rfl)); (try simp only [Act.put, List.getElem_toArray, List.getElem_cons_zero, List.getElem_cons_succ, List.setIfInBounds_toArray, List.set_cons_zero, List.set_cons_succ]))
            refine wpAnyH_ready (rs := [10]) (by kernel_rfl) (by simp) ?_; refine AllReadyH.cons (i := 10) rfl (fun K hK => ?_) AllReadyH.nil
            go_simp
            refine (c_spec_l10Bridge (patR X k) (patR X j) h _ _ _ (by rw [← Hpl.out]; exact HUK.out.below ((Below.refl _ _).dr)) (by rw [← Hpj.out]; exact HUJ.out.below ((Below.refl _ _).dr)) HBC.out).mono ?_; rintro e w5 ⟨u5, rfl, ho5, hb5⟩
            have hb5' := below_drew hb5
            obtain ⟨a5, c5, rfl, -, -⟩ := ho5.rd
            rw [Hld.out]
            refine hK.out _ _ ⟨cellB hb5' HZ.out.1, cellB hb5' HZ.out.2.1, cellB hb5' HZ.out.2.2⟩ (fun hHeld => ?_)
            clear hK K
            (try simp only [Act.put, List.getElem_toArray, List.getElem_cons_zero, List.getElem_cons_succ, List.setIfInBounds_toArray, List.set_cons_zero, List.set_cons_succ])
            (refine wpAnyH_take (i := 11) (v := ?tv11) rfl (by kernel_rfl) (by kernel_rfl) (by kernel_rfl) (fun _ _ _ h => h) (Or.inl ⟨by rfl, ?thy11⟩) (by assumption) ?trest11; case thy11 => (intro w hSw; (try dsimp only at hSw); go_simp; (try with_reducible rfl)); (try simp only [Act.put, List.getElem_toArray, List.getElem_cons_zero, List.getElem_cons_succ, List.setIfInBounds_toArray, List.set_cons_zero, List.set_cons_succ]))
            refine wpAnyH_ready (rs := [12]) (by kernel_rfl) (by simp) ?_; refine AllReadyH.cons (i := 12) rfl (fun K hK => ?_) AllReadyH.nil
            go_simp
            have hb6 := hb5'.al (.cells #[Value.int IntKind.i64 (ld : Int)] 2)
            refine hK.out _ _ ⟨cellB hb6 HZ.out.1, cellB hb6 HZ.out.2.1, cellB hb6 HZ.out.2.2⟩ (fun hHeld => ?_)
            clear hK K
            (try simp only [Act.put, List.getElem_toArray, List.getElem_cons_zero, List.getElem_cons_succ, List.setIfInBounds_toArray, List.set_cons_zero, List.set_cons_succ])
            refine wpAnyH_ready (rs := [13]) (by kernel_rfl) (by simp) ?_; refine AllReadyH.cons (i := 13) rfl (fun K hK => ?_) AllReadyH.nil
            refine step_push_i rfl _ _ _ rfl Try.underlying28 infoI w4.heap.size _ (ordRow h X k j) (ld : Int) w5.heap.size _ rfl rfl ?_ (by exact HRO.out.below hb6) hkl (by exact Nat.le_trans hsi hb6.size) ?_
            · exact World.cell?_alloc_at _ _ _ _ rfl
            intro v7 w7 ho7 hg7 hat7 hs7
            have hl7 := fun i hi => (World.ownsRow.lt (HRO.out.below hb6) i hi).1
            have B7 : Below w4.heap.size w4 w7 := (HBI.out.tr hb6).grown hg7 (by exact Nat.le_trans hsi hb6.size) (by exact hl7)
            have B17 := B14.out.tr B7
            have q0 := cellB B17 HK.out.1
            have q1 := cellB B17 HK.out.2
            rw [Hn.out] at q1
            obtain ⟨bp'', op'', uj2, he2, xj2, -, huj2⟩ := HRW.out.part j hjx
            cases he2
            have q2 : w7.cell? ⟨bp, op + j * 2, none⟩ = some (.slice auj pj cuj) := by
              have := cellB B7 (cellB B14.out xj2)
              have e9 := cellB (B14.out.tr HBI.out) xj2
              rw [HZ.out.2.2] at e9
              cases e9
              exact this
            refine hK.out _ _ ⟨q0, q1, q2⟩ (fun hHeld => ?_)
            clear hK K
            (try simp only [Act.put, List.getElem_toArray, List.getElem_cons_zero, List.getElem_cons_succ, List.setIfInBounds_toArray, List.set_cons_zero, List.set_cons_succ])
            (refine wpAnyH_take (i := 14) (v := ?tv12) rfl (by kernel_rfl) (by kernel_rfl) (by kernel_rfl) (fun _ _ _ h => h) (Or.inl ⟨by rfl, ?thy12⟩) (by assumption) ?trest12; case thy12 => (intro w hSw; (try dsimp only at hSw); go_simp; (try with_reducible rfl)); (try simp only [Act.put, List.getElem_toArray, List.getElem_cons_zero, List.getElem_cons_succ, List.setIfInBounds_toArray, List.set_cons_zero, List.set_cons_succ]))
            refine wpAnyH_done (by kernel_rfl) ?_ _
            refine NoPanic.normal ?_
            have HF7 := Lib.hid (And.intro ho7 B7)
            clear ho7 hg7 hat7 hs7 hl7 B7 B17 q0 q1 q2 xj2 huj2 hb6 hb5 hb5' ho5 z0 z1 xj
            go_wp2_with fail
            go_roundw
            case rel => exact ⟨j + 1, by omega, by go_num, by rw [HRS.out]; exact HF7.out.1, HF7.out.2⟩
            case measure => simp [intOf]; omega
          · obtain rfl : n = j := by omega
            have hM := HM.out
            have Bwi := HB4.out.tr hbi
            have M := hM.below Bwi
            have hrl : (ordRow h X k n).length = n := ordRow_len h X k n
            have hs4i := hbi.size
            rcases hrow.shape with ⟨-, hnil⟩ | ⟨gr, cr, rfl, hgr1, hgr2, -, -, -, -⟩
            · exact absurd hrl (by rw [hnil]; simp; omega)
            rw [hrl] at hrow ⊢
            obtain ⟨ac, cc, hR0⟩ := cst_form hM.c
            rw [ordCs_len] at hR0
            have hMc := M.c
            rw [hR0] at hMc
            have c0 := M.b.cr 0 (by decide) (by decide) (by decide)
            rw [hR0] at c0
            have f0 := M.b.fr 0 (by decide)
            have hlu : w1.heap.size < wr.heap.size := World.block_lt_of_cell? wr _ (M.b.us 0 (by omega)).1
            have hne : ∀ b, (Value.slice (some ⟨gr, 0, none⟩) n cr).ownBlock = some b → ¬ cstB (.slice ac k cc) (ordCs h X k) vs b := fun b hb hc => by
              rw [← hR0] at hc
              have := (hM.c.lt b hc).2
              simp only [Value.ownBlock, Option.some.injEq] at hb
              omega
            have hul := hM.b.lbo
            have hlo9 : w1.heap.size < wo.heap.size := World.block_lt_of_cell? wo _ (hM.b.us 0 (by omega)).1
            have hu7 : ∀ b, (Value.slice (some ⟨gr, 0, none⟩) n cr).ownBlock = some b → b ≠ bo ∧ b ≠ w1.heap.size ∧ v1.ownBlock ≠ some b ∧ v2.ownBlock ≠ some b := fun b hb => by
              simp only [Value.ownBlock, Option.some.injEq] at hb
              exact ⟨by omega, by omega, fun e => by have := (World.ownsRow.lt hM.b.o1 b e).2; omega, fun e => by have := (World.ownsRow.lt hM.b.o2 b e).2; omega⟩
            have hcl : (ordCs h X k).length < 1000000000 := by rw [ordCs_len]; omega
            have hs1 := M.b.bel.size
            have hl1 : (F.first.take k).length = k := by rw [List.length_take, HF.out.1, Hn.out]; omega
            have hl2 : (F.last.take k).length = k := by rw [List.length_take, HF.out.2, Hn.out]; omega
            obtain ⟨L1, HL1⟩ : ∃ L, Hid (F.first.take k = L) := ⟨_, rfl⟩
            obtain ⟨L2, HL2⟩ : ∃ L, Hid (F.last.take k = L) := ⟨_, rfl⟩
            rw [HL1.out] at M hl1 HX1
            rw [HL2.out] at M hl2 HX2
            have hkl1 : L1.length < 1000000000 := by omega
            have hkl2 : L2.length < 1000000000 := by omega
            obtain ⟨q1, p1, hv1, -, -⟩ := M.b.o1.rd
            obtain ⟨q2, p2, hv2, -, -⟩ := M.b.o2.rd
            rw [hl1] at hv1
            rw [hl2] at hv2
            subst hv1 hv2
            have HMM := Lib.hid M
            have HRW2 := Lib.hid hR0
            have HNE := Lib.hid hne
            have HU7 := Lib.hid hu7
            have HCR := Lib.hid (hrow.base (show w1.heap.size ≤ w4.heap.size from hs14))
            have HMC := Lib.hid hMc
            have hbo1 := M.b.hbo
            have hbpl : bp < w1.heap.size := World.block_lt_of_cell? w1 _ HX0.out.1
            have nb1 : bo ≠ w.heap.size := by omega
            have nb2 : bo ≠ bp := by omega
            have nb3 : w.heap.size ≠ bo := fun e => nb1 e.symm
            have nb4 : bp ≠ bo := fun e => nb2 e.symm
            have HLEN := Lib.hid (And.intro hl1 hl2)
            clear hM M Bwi hrow hMc hne hu7 hR0 hl1 hl2 hrl hbi hBI
            go_wp2_with (at_builtin; refine push_cst rfl _ _ _ rfl Try.underlying67 infoG (.slice ac k cc) (.slice (some ⟨gr, 0, none⟩) n cr) (ordCs h X k) vs (ordRow h X k n) wr rfl rfl (by exact HMC.out) (by exact HCR.out) (by exact HNE.out) rfl hcl hs1 ?_; intro v7 w7 hc7 hg7 hat7 hs7; refine stop_of ?_)
            unfold Stopped
            have C7 := HMM.out.cost hc7 (by rw [HRW2.out]; exact hg7) (by rw [HRW2.out]; exact hat_ge hat7 (by omega)) HU7.out hlu
            obtain ⟨g7, p7, hv7, -, -⟩ := World.ownsRow.form hc7.ow (by simp)
            subst hv7
            have hln7 : (ordCs h X k ++ [ordRow h X k n]).length = k + 1 := by rw [List.length_append, ordCs_len]; rfl
            rw [hln7] at C7 ⊢
            have c07 := C7.1.cr 0 (by decide) (by decide) (by decide)
            have f07 := C7.1.fr 0 (by decide)
            have c17 := C7.1.c1
            have hsz7 : (w7.setCell ⟨bo, 0, none⟩ (.slice (some ⟨g7, 0, none⟩) (k + 1) p7)).heap.size = w7.heap.size := by simp
            have HSZ7 := Lib.hid hsz7
            have hs71 : w1.heap.size ≤ (w7.setCell ⟨bo, 0, none⟩ (.slice (some ⟨g7, 0, none⟩) (k + 1) p7)).heap.size := C7.2.b.bel.size
            have hlu7 : w1.heap.size < (w7.setCell ⟨bo, 0, none⟩ (.slice (some ⟨g7, 0, none⟩) (k + 1) p7)).heap.size := World.block_lt_of_cell? _ _ (C7.2.b.us 0 (by omega)).1
            have HS71 := Lib.hid (And.intro hs71 hlu7)
            have H7 := Lib.hid C7.2
            clear C7 hc7 hg7 hat7 hs7 hln7 hsz7 hs71 hlu7 c0 f0
            go_wp2_with (at_builtin; refine push_int_at rfl _ _ _ _ rfl Try.underlying28 infoI w1.heap.size (.slice q1 k p1) L1 (le : Int) (w7.setCell ⟨bo, 0, none⟩ (.slice (some ⟨g7, 0, none⟩) (k + 1) p7)) rfl (by rw [HSZ7.out]; rfl) (by exact H7.out.b.o1) hkl1 HS71.out.1 ?_; intro v8 w8 ho8 hg8 hat8 hs8; refine stop_of ?_)
            unfold Stopped
            have C8 := H7.out.grow1 ho8 hg8 (hat_ge hat8 (Nat.le_succ _)) HS71.out.2
            rcases ho8.shape with ⟨-, hnil⟩ | ⟨g8, p8, rfl, -⟩
            · exact absurd hnil (by simp)
            have hln8 : (L1 ++ [(le : Int)]).length = k + 1 := by rw [List.length_append, HLEN.out.1]; rfl
            rw [hln8] at C8 ⊢
            have c18 := C8.1.c1
            have f18 := C8.1.fr 1 (by decide)
            have c28 := C8.1.c2
            have hsz8 : (w8.setCell ⟨bo, 1, none⟩ (.slice (some ⟨g8, 0, none⟩) (k + 1) p8)).heap.size = w8.heap.size := by simp
            have HSZ8 := Lib.hid hsz8
            have hs81 : w1.heap.size ≤ (w8.setCell ⟨bo, 1, none⟩ (.slice (some ⟨g8, 0, none⟩) (k + 1) p8)).heap.size := C8.2.b.bel.size
            have hlu8 : w1.heap.size < (w8.setCell ⟨bo, 1, none⟩ (.slice (some ⟨g8, 0, none⟩) (k + 1) p8)).heap.size := World.block_lt_of_cell? _ _ (C8.2.b.us 0 (by omega)).1
            have HS81 := Lib.hid (And.intro hs81 hlu8)
            have H8 := Lib.hid C8.2
            clear C8 ho8 hg8 hat8 hs8 hln8 hsz8 hs81 hlu8 c07 f07 c17
            go_wp2_with (at_builtin; refine push_int_at rfl _ _ _ _ rfl Try.underlying28 infoI w1.heap.size (.slice q2 k p2) L2 (lx : Int) (w8.setCell ⟨bo, 1, none⟩ (.slice (some ⟨g8, 0, none⟩) (k + 1) p8)) rfl (by rw [HSZ8.out]; rfl) (by exact H8.out.b.o2) hkl2 HS81.out.1 ?_; intro v9 w9 ho9 hg9 hat9 hs9; refine stop_of ?_)
            unfold Stopped
            have C9 := H8.out.grow2 ho9 hg9 (hat_ge hat9 (Nat.le_succ _)) HS81.out.2
            rcases ho9.shape with ⟨-, hnil⟩ | ⟨g9, p9, rfl, -⟩
            · exact absurd hnil (by simp)
            have hln9 : (L2 ++ [(lx : Int)]).length = k + 1 := by rw [List.length_append, HLEN.out.2]; rfl
            rw [hln9] at C9 ⊢
            have c29 := C9.1.c2
            have f29 := C9.1.fr 2 (by decide)
            have y0 := cellB C9.1.bel HK.out.1
            have y1 := cellB C9.1.bel HK.out.2
            rw [Hn.out] at y1
            have x1 := cellB C9.1.bel HX0.out.2
            have H9 := Lib.hid C9.2
            clear C9 ho9 hg9 hat9 hs9 hln9 c18 f18 c28
            go_wp2_with fail
            go_roundw
            case rel => exact ⟨k + 1, by omega, by go_num, by rw [HBE.out], _, _, (fun i => if i = 0 then Value.slice (some ⟨g7, 0, none⟩) (k + 1) p7 else R' i), _, ⟨by simpa using hRR.1, by simpa using hRR.2.1, by simpa using hRR.2.2.1, by simpa using hRR.2.2.2⟩, by rw [HX1.out, HX2.out, ordCs_succ, Hn.out]; exact H9.out⟩
            case measure => simp [intOf]; omega
      · obtain rfl : n = k := by omega
        rw [List.take_of_length_le (by rw [HF.out.1, Hn.out]; omega), List.take_of_length_le (by rw [HF.out.2, Hn.out]; omega)] at hM
        have hlu : w1.heap.size < wr.heap.size := World.block_lt_of_cell? wr _ (hM.b.us 0 (by omega)).1
        have hRF : RdFar (fun j => j = bo ∨ j = w1.heap.size) n wr (R' 0) v1 v2 F := hM.far (by omega) (by rw [HF.out.1, Hn.out]) (by rw [HF.out.2, Hn.out]) (ordCs_len _ _ _) (by rw [HFC.out, Hn.out]) (fun i hi => by
          have e : (ordCs h X n).getD i [] = ordRow h X i X.length := by unfold ordCs; simp [List.getD, hi]
          rw [e, ordRow_len, Hn.out]) (fun k hk => hk)
        have hDlt : ∀ j, (j = bo ∨ j = w1.heap.size) → j < wr.heap.size := fun j hj => by
          rcases hj with rfl | rfl
          · exact hM.b.lbo
          · exact hlu
        have hA : SrchS w1.heap.size bo w1.heap.size n (fun j => j = bo ∨ j = w1.heap.size) wr (R' 0) v1 v2 wr (.slice none 0 0) [] (.slice none 0 0) none := by
          obtain ⟨r3, r4, r5, r6⟩ := hRR
          obtain ⟨s3, s4, s5, s6⟩ := HRI.out
          have m3 := hM.b.cr 3 (by decide) (by decide) (by decide)
          have m4 := hM.b.cr 4 (by decide) (by decide) (by decide)
          have m5 := hM.b.cr 5 (by decide) (by decide) (by decide)
          have m6 := hM.b.cr 6 (by decide) (by decide) (by decide)
          rw [r3, s3] at m3; rw [r4, s4] at m4; rw [r5, s5] at m5; rw [r6, s6] at m6
          exact ⟨⟨hM.b.cr 0 (by decide) (by decide) (by decide), hM.b.c1, hM.b.c2, m4, m3, m5, m6, hM.b.fr 4 (by decide), hM.b.fr 5 (by decide), hM.b.fr 6 (by decide), fun j hj => by have := hM.b.us j hj; simpa [memO] using this, OwnI.nil _ rfl, OwnI.nil _ rfl, fun j hj => by simp [Value.ownBlock] at hj, UpdS.refl _ _, Or.inl rfl, Or.inr rfl, hM.b.ne, hM.b.lbo, hlu, hM.b.bel.size, hDlt⟩, fun _ => rfl, fun p hp => by cases hp⟩
        have hbl := hM.b.bel
        have hbo := hM.b.hbo
        have z1 := cellB hbl HK.out.2
        rw [Hn.out] at z1
        have HA := Lib.hid hA
        have HRF := Lib.hid hRF
        have HBE := Lib.hid hbl
        have hbt := HBT.out n (by rw [Hn.out]; exact Nat.le_refl _)
        have HWN := HW
        rw [Hn.out] at HWN HB
        obtain ⟨bk, Hbk⟩ : ∃ bk, Hid (beatN X n = bk) := ⟨_, rfl⟩
        rw [Hbk.out] at hbt ⊢
        have hbk0 := hbt.1
        have hbk1 : bk ≤ 1920 := by have := hbt.2; omega
        clear hM hA hRF hbl hRR hbt
        go_wp2_with fail
        refine (c_spec_walk _ _ _ _ _ _ _ _ _ F HRF.out HB.out n [] 0 _ _ none _ HA.out (PathO.nil n) (by simp) (by simp) NnO.none).mono ?_; rintro e w4 ⟨rfl, vo4, vb4, h4⟩
        rw [HWN.out] at h4
        obtain ⟨ad, m4, cap4, rfl⟩ := h4.bs q rfl
        have c5 := h4.m.c5
        have c6 : w4.cell? ⟨bo, 6, none⟩ = some (.int .i64 q.2) := h4.m.c6
        obtain ⟨-, -, -, hq0, hq1⟩ := HQB.out
        have ob := h4.m.ob.base HBE.out.size
        have hfin := HBB.out.tr (updS_below2 HBE.out h4.m.up HBE.out.size (fun j hj => by rcases hj with rfl | rfl <;> omega))
        have hob := ob.base HBB.out.size
        have HOB := Lib.hid (And.intro hob hfin)
        have HRS : Hid (soL h X = bk + q.2) := by unfold Hid; rw [HY.out.2.1, HQ.out, Hn.out, Hbk.out, Int.add_comm]; rfl
        have HRX : Hid (soX h X = q.1) := by unfold Hid; rw [HY.out.1, HQ.out]; rfl
        generalize q.2 = Q2 at *
        clear h4 ob hob hfin
        go_wp2_with fail
        go_quiet (fail)
        go_wp2
        go_ret3
        exact ⟨_, by rw [HRS.out, HY.out.2.2]; rfl, by rw [HRX.out]; exact HOB.out.1.below ((Below.refl _ _).drN _), HOB.out.2.tr ((Below.refl _ _).drN _)⟩
end Go.Proofs.Ytgcmnpimkfmccaa
end
section
namespace Go.Proofs.Ytgcmnpimkfmccaa
open Go.ChangeShapes Go.WideShapes Go.ChangeAt Go.RowKit
set_option linter.unusedSimpArgs false
set_option linter.unusedVariables false
theorem wp_make_bool {P : Program} {o : Oper} {a : Act} {K : Act → World → Prop} {Q : Exit → Act → World → Prop} (hgd : o.guard = none) (x y : Operand) (t e : TypeId)
    (ho : o.op = .makeSlice t x y) (ht : P.underlying t = some (.slice e)) (hinfo : (P.info? e).map (fun i => (i.zero, i.size, i.bytes)) = some (some (.bool false), 1, 1))
    (B : Nat) (w0 : World) (kx ky : IntKind) (L C : Int) (n : Nat) (hx : a.eval x = .int kx L) (hy : a.eval y = .int ky C) (hL : L = (n : Int)) (hC : C = (n : Int)) (hn : n ≤ 1000000000) (hB : B ≤ w0.heap.size)
    (h : ∀ w', BoolsAt w' w0.heap.size n (fun _ => false) → Below w0.heap.size w0 w' → w0.heap.size < w'.heap.size → K (a.put o.dst (.slice (some ⟨w0.heap.size, 0, none⟩) n n)) w') :
    Oper.wp P o a w0 K Q := by
  obtain ⟨i0, hi, hz0, hz1, hz2⟩ := info_parts hinfo
  obtain ⟨w', hrun, r1, r2⟩ := run_make_full (P := P) w0 B t e i0 (.bool false) 1 ht hi hz0 hz1 kx ky n (by rw [hz2]; omega) (by unfold maxLen; omega) hB
  subst hL
  subst hC
  unfold Oper.wp
  simp [execOp, ho, hx, hy, hrun, Result.andThen]
  refine h w' ?_ ((Below.refl _ _).grown r2 (Nat.le_refl _) (fun k hk => by cases hk)) (World.ownsRow.lt r1 _ rfl).2
  have e1 : (madeCells (Value.cells (.bool false)) (n * 1)).toList = List.replicate n (.bool false) := by
    rw [Nat.mul_one]
    simp [Value.cells, toList_madeCells_one]
  rw [e1] at r1
  intro k hk
  refine ⟨?_, World.ownsRow.frozenAt r1 k⟩
  rw [World.ownsRow.cellAt r1 k (by omega)]
  simp [hk]
theorem ownM_upd {P : Program} {K E : TypeId} {lo hi b n : Nat} {f : Int → Option Int} {D : Nat → Prop} {w w' : World} (h : OwnM P K E lo hi w b n f) (u : UpdS D w w') (hD : ¬ D b) : OwnM P K E lo hi w' b n f := by
  obtain ⟨h1, h2, Da, hDa, hr⟩ := h
  obtain ⟨es, clock, hh, r⟩ := hDa
  refine ⟨h1, h2, Da, ⟨es, clock, ?_, r⟩, hr⟩
  rw [u.block b (Array.getElem?_eq_some_iff.1 hh).1 hD]; exact hh
theorem ownG_cst {ES e : TypeId} {lo hi : Nat} {w : World} {v : Value} {X : List (List Int)} (h : OwnG ES e lo hi w v X) : ∃ vs, Cst ES e lo w v X vs ∧ ∀ k, cstB v X vs k → k < hi := by
  obtain ⟨vs, hl, ho, hb, hr, -, hne⟩ := h
  refine ⟨vs, ⟨ho, fun i hi => (hr i hi).1, hne⟩, fun k hk => ?_⟩
  rcases hk with hk | ⟨i, hi, hk⟩
  · exact hb k hk
  · exact (hr i hi).2 k hk
theorem cst_base {ES e : TypeId} {lo lo' : Nat} {w : World} {v : Value} {X : List (List Int)} {vs : List Value} (h : Cst ES e lo w v X vs) (hl : lo' ≤ lo) : Cst ES e lo' w v X vs := ⟨owns_base h.ow hl, fun i hi => (h.row i hi).base hl, h.ne⟩
theorem bl3_start {ES e T : TypeId} {wr wm : World} {bu n : Nat} {af : Option Addr} {cf : Nat} {X : List (List Int)} {vs : List Value} (hbel : Below wr.heap.size wr wm) (hcst : Cst ES e wr.heap.size wm (.slice af n cf) X vs) (hus : BoolsAt wm bu n (fun _ => false)) (hbu : wr.heap.size ≤ bu) (hsep : ∀ k, cstB (.slice af n cf) X vs k → k ≠ bu) (hbum : bu < wm.heap.size) (hn : 1 ≤ n) :
    ∃ R : Nat → Value, Bl3 ES e wm.heap.size bu n wr R (wm.alloc (Obj.cells #[.slice af n cf, .slice none 0 0, .slice none 0 0, .slice none 0 0, .slice (some ⟨bu, 0, none⟩) n n, .slice none 0 0, .int .i64 0] T)) (.slice none 0 0) (.slice none 0 0) [] [] X vs ∧ (R 0 = .slice af n cf ∧ R 3 = .slice none 0 0 ∧ R 4 = .slice (some ⟨bu, 0, none⟩) n n ∧ R 5 = .slice none 0 0 ∧ R 6 = .int .i64 0) := by
  have hal : Below wm.heap.size wm (wm.alloc (Obj.cells #[.slice af n cf, .slice none 0 0, .slice none 0 0, .slice none 0 0, .slice (some ⟨bu, 0, none⟩) n n, .slice none 0 0, .int .i64 0] T)) := (Below.refl _ _).al _
  refine ⟨fun i => if i = 0 then .slice af n cf else if i = 4 then .slice (some ⟨bu, 0, none⟩) n n else if i = 6 then .int .i64 0 else .slice none 0 0, ⟨⟨hbel.tr hal, ?_, ?_, fun i hi h1 h2 => ?_, fun i hi => ?_, hus.below hal, OwnI.nil _ rfl, OwnI.nil _ rfl, fun k hk => by simp [Value.ownBlock] at hk, fun k hk => by simp [Value.ownBlock] at hk, hbel.size, hbu, by omega⟩, ?_, fun k hk => ?_⟩, rfl, rfl, rfl, rfl, rfl⟩
  · exact World.cell?_alloc_at _ _ _ _ rfl
  · exact World.cell?_alloc_at _ _ _ _ rfl
  · have : i = 0 ∨ i = 3 ∨ i = 4 ∨ i = 5 ∨ i = 6 := by omega
    rcases this with rfl | rfl | rfl | rfl | rfl <;> exact World.cell?_alloc_at _ _ _ _ rfl
  · go_simp
  · exact hcst.below hal
  · have hk : cstB (.slice af n cf) X vs k := hk
    have := (hcst.lt k hk).2
    exact ⟨by omega, hsep k hk, by simp [Value.ownBlock], by simp [Value.ownBlock]⟩
noncomputable def stT (h : Int) (X : List Part2) (k : Nat) : List Int := (List.range k).map (stR h X)
theorem stT_succ (h : Int) (X : List Part2) (k : Nat) : stT h X (k + 1) = stT h X k ++ [stR h X k] := by simp [stT, List.range_succ]
theorem stT_len (h : Int) (X : List Part2) (k : Nat) : (stT h X k).length = k := by simp [stT]
theorem stT_at {h : Int} {X : List Part2} {k i : Nat} (hi : i < k) : (stT h X k).getD i 0 = stR h X i := by simp [stT, List.getD, hi]
theorem RoutOk.farL {h : Int} {X : List Part2} (R : RoutOk h X) {s t : Int} (hs : s ∈ maskL (headN X) h) (ht : t ∈ maskL (headN X) h) : farM h s t = ((shortL h s t).length : Int) := by
  have := farM_bd R.hh hs ht
  rw [shortL_len]
  omega
theorem RoutOk.among {h : Int} {X : List Part2} (R : RoutOk h X) : amongL h (stT h X X.length) = ordCs h X X.length := by
  unfold amongL amongTo ordCs
  rw [stT_len]
  refine List.map_congr_left (fun i hi => ?_)
  have hi := List.mem_range.1 hi
  unfold rowTo ordRow
  rw [List.take_of_length_le (by rw [stT_len]; exact Nat.le_refl _), stT_at hi]
  unfold stT
  rw [List.map_map]
  refine List.map_congr_left (fun j hj => ?_)
  have hj := List.mem_range.1 hj
  exact R.farL (R.st hi) (R.st hj)
set_option maxHeartbeats 2000000 in
set_option maxRecDepth 100000 in
theorem c_impl_ShortestOrder (X : List Part2) (h : Int) (v : Value) (w : World) (hr : RdP w v X) :
    Calls Try.prog 7 #[.agg #[.int .i64 h, v]] w fun e w' => ∃ u, e = .returned (.tuple #[u, .int .i64 (soL h X), .int .i64 (soC h X)]) ∧ OwnI1 w.heap.size w' u (soX h X) ∧ Below w.heap.size w w' := by
  obtain ⟨W0, hW0, k0, k1, B0⟩ := routOf w 26 h v
  have hr0 := hr.below B0
  have hr' := hr
  obtain ⟨a1, cap1, rfl, -, -⟩ := hr'
  cases hv : validR h X
  · have HC := Lib.hid (so_no hv)
    go_enter Try.func7, Try.ntmps7
    go_wp2_with fail
    rw [← hW0]
    clear hW0
    refine (c_impl_ValidRoutine X h _ _ hr0).mono ?_; rintro e w1 ⟨rfl, hb1⟩; rw [hv]
    go_wp2
    go_ret3
    exact ⟨_, by rw [HC.out.2.1, HC.out.2.2]; rfl, by rw [HC.out.1]; exact OwnI.nil _ rfl, B0.tr hb1⟩
  · have R := rout_ok hv
    have HY := Lib.hid (so_yes hv)
    obtain ⟨q, hq, hqp, hql, hq0, hq1⟩ := ord_some R
    have HQB : Hid (0 ≤ q.2 ∧ q.2 ≤ 100000000) := ⟨hq0, hq1⟩
    have HQ := Lib.hid hq
    have HW : Hid (walkO (ordF h X) X.length [] 0 none = some q) := hq
    have HB := Lib.hid (ordF_bd R)
    have HBT := Lib.hid (beat_bd R)
    have HPL := Lib.hid (fun k (hk : k < X.length) => pat_len12 R hk)
    have HTM := Lib.hid R.ht
    have HST := Lib.hid (fun k (hk : k < X.length) => R.st hk)
    have HGR := Lib.hid R.gr
    have HAM := Lib.hid R.among
    have HFL := Lib.hid (fun s t hs ht => R.farL (s := s) (t := t) hs ht)
    have hxl := R.hl
    have hh := R.hh
    have HMB := Lib.hid (fun x (hx : x ∈ maskL (headN X) h) => mask_bd (n := headN X) (h := h) (m := x) hh hx)
    have HF : Hid ((ordF h X).first.length = X.length ∧ (ordF h X).last.length = X.length) := by unfold Hid; simp [ordF]
    have HF1 : Hid (∀ k, k < X.length → (ordF h X).first.take (k + 1) = (ordF h X).first.take k ++ [ordE h X k]) := by
      intro k hk
      rw [take_rowO (by rw [HF.out.1]; exact hk)]
      have e : (ordF h X).first.getD k 0 = if k < X.length then ordE h X k else 0 := range_at X.length _ k
      rw [e, if_pos hk]
    have HF2 : Hid (∀ k, k < X.length → (ordF h X).last.take (k + 1) = (ordF h X).last.take k ++ [ordB h X k]) := by
      intro k hk
      rw [take_rowO (by rw [HF.out.2]; exact hk)]
      have e : (ordF h X).last.getD k 0 = if k < X.length then ordB h X k else 0 := range_at X.length _ k
      rw [e, if_pos hk]
    have HFC : Hid ((ordF h X).costs = ordCs h X X.length) := rfl
    obtain ⟨F, HFF⟩ : ∃ F, Hid (ordF h X = F) := ⟨_, rfl⟩
    rw [HFF.out] at HF HF1 HF2 HFC HW HB
    obtain ⟨n, Hn⟩ : ∃ n, Hid (X.length = n) := ⟨_, rfl⟩
    have HR := Lib.hid R
    rw [Hn.out] at hxl
    clear R hq hqp hql hq0 hq1
    go_enter Try.func7, Try.ntmps7
    go_wp2_with fail
    rw [← hW0]
    clear hW0
    refine (c_impl_ValidRoutine X h _ _ hr0).mono ?_; rintro e w1 ⟨rfl, hb1⟩; rw [hv]
    clear hv
    have k0 := cellB hb1 k0
    have k1 := cellB hb1 k1
    have HRW := Lib.hid (hr0.below hb1)
    have HK := Lib.hid (And.intro k0 k1)
    have HBB := Lib.hid (B0.tr hb1)
    have hbr : w.heap.size < w1.heap.size := World.block_lt_of_cell? w1 _ k0
    clear hb1 hr0 hr
    have hnl : (n : Int) ≤ 8 := by omega
    rw [Hn.out] at k1
    rw [Hn.out]
    go_wp2_with fail
    go_loopw [5, 6, 20] (fun u be kv wr => ∃ k : Nat, k ≤ n ∧ kv = .int .i64 k ∧ be = .int .i64 (beatN X k) ∧ OwnS w1.heap.size wr.heap.size h wr u (stT h X k) ∧ Below w1.heap.size w1 wr) (fun _ _ kv _ => n - (intOf kv).toNat)
    case atStart => exact ⟨0, by omega, rfl, rfl, (OwnRow.made rfl rfl (Nat.le_refl _)).tight, by (repeat (first | (with_reducible assumption) | (with_reducible exact Below.refl _ _) | (with_reducible refine Below.setCell ?_ (by first | (simp; done) | (simp; omega)) _) | (with_reducible refine Below.al ?_ _) | (with_reducible refine Below.dr ?_) | (with_reducible refine Below.drN ?_ _) | (with_reducible refine Below.tr ?_ (by with_reducible assumption))))⟩
    case round =>
      obtain ⟨k, hk, rfl, rfl, hown, hb⟩ := hrel
      have y0 := cellB hb HK.out.1
      have y1 := cellB hb HK.out.2
      rw [Hn.out] at y1
      have hs := hb.size
      by_cases hlt : k < n
      · have hkx : k < X.length := by rw [Hn.out]; exact hlt
        have hx1 := HRW.out
        obtain ⟨bp, op, up, ha1, x0, x1, hup⟩ := hx1.part k hkx
        subst ha1
        obtain ⟨aup, cup, rfl, -, -⟩ := hup
        have hpl := HPL.out k hkx
        have htm := HTM.out k hkx
        have hbt := HBT.out k (by omega)
        obtain ⟨pl, Hpl⟩ : ∃ pl : Nat, Hid ((patR X k).length = pl) := ⟨_, rfl⟩
        obtain ⟨tm, Htm⟩ : ∃ tm, Hid (timR X k = tm) := ⟨_, rfl⟩
        rw [Hpl.out] at x0 hpl
        rw [Htm.out] at x1 htm
        have HBE : Hid (beatN X (k + 1) = beatN X k + (pl : Int) * tm) := by unfold Hid; rw [← Hpl.out, ← Htm.out, Int.mul_comm]; rfl
        obtain ⟨bk, Hbk⟩ : ∃ bk, Hid (beatN X k = bk) := ⟨_, rfl⟩
        rw [Hbk.out] at hbt HBE
        rw [Hbk.out]
        obtain ⟨M, HM⟩ : ∃ M : Int, Hid ((pl : Int) * tm = M) := ⟨_, rfl⟩
        have hM0 : 0 ≤ M := by rw [← HM.out]; exact Int.mul_nonneg (by omega) (by omega)
        have hM1 : M ≤ 12 * 20 := by rw [← HM.out]; exact Int.mul_le_mul (by omega) (by omega) (by omega) (by omega)
        have hMw : IntKind.i64.wrap ((pl : Int) * tm) = M := by rw [HM.out]; exact wraps_i64 M hM0 (by omega)
        rw [HM.out] at HBE
        have hbk0 := hbt.1
        have hbk1 : bk ≤ 1920 := by have := hbt.2; omega
        have hbs : IntKind.i64.wrap (bk + M) = bk + M := wraps_i64 _ (by omega) (by omega)
        have x0 := cellB hb x0
        have x1 := cellB hb x1
        have hk0 : (0 : Int) ≤ (k : Int) := by omega
        have hkn : (k : Int) < (n : Int) := by omega
        have HSS := Lib.hid (stT_succ h X k)
        have hsl : (stT h X k).length < 1000000000 := by rw [stT_len]; omega
        obtain ⟨st, Hst⟩ : ∃ st, Hid (stR h X k = st) := ⟨_, rfl⟩
        rw [Hst.out] at HSS
        have hpn : (pl : Int) ≤ 9223372036854775807 := by omega
        have HOW := Lib.hid hown
        have HBW := Lib.hid hb
        clear hown hb hx1 hbt htm k0 k1
        have y0a : ∀ ob, (wr.alloc ob).cell? ⟨w.heap.size, 0, none⟩ = some (.int .i64 h) := fun ob => al_c ob y0
        have y1a : ∀ ob, (wr.alloc ob).cell? ⟨w.heap.size, 1, none⟩ = some (.slice (some ⟨bp, op, none⟩) n cap1) := fun ob => al_c ob y1
        go_wp2_with fail
        have BA : Below wr.heap.size wr (wr.alloc (.cells #[.slice aup pl cup, .int .i64 tm] 34)) := (Below.refl _ _).al _
        refine (c_impl_Routine_stateAt X h k _ _ (by rw [← Hn.out]; exact (HRW.out.below HBW.out).below BA) HR.out hkx).mono ?_; rintro e w3 ⟨rfl, hb3⟩
        rw [Hst.out]
        have B3 := BA.tr hb3
        have p0 : w3.cell? ⟨wr.heap.size, 0, none⟩ = some (.slice aup pl cup) := cellB hb3 (World.cell?_alloc_at _ _ _ _ rfl)
        have p1 : w3.cell? ⟨wr.heap.size, 1, none⟩ = some (.int .i64 tm) := cellB hb3 (World.cell?_alloc_at _ _ _ _ rfl)
        have hs3 := B3.size
        have hs13 : w1.heap.size ≤ w3.heap.size := by omega
        have hrs3 : wr.heap.size < w3.heap.size := World.block_lt_of_cell? w3 _ p0
        clear y0a y1a
        go_wp2_with (at_builtin; refine push_row_at (row := rowS h) rfl _ _ _ _ rfl Try.underlying61 (.agg #[.int .i64 0, .int .i64 0]) 16 infoS rfl (by decide) (by decide) (rowS_len h) w1.heap.size wr.heap.size _ _ st #[.int .i64 h, .int .i64 st] _ rfl (rowS_one h _) rfl rfl (by exact HOW.out.below B3) hsl hs13 ?_; intro v5 w5 hown5 hb5 hs5 hg5 hat5; refine stop_of ?_)
        unfold Stopped
        have hlt5 := fun b hb => (World.ownsRow.lt (HOW.out.below B3).1 b hb)
        have hnp : u5.ownBlock ≠ some wr.heap.size := fun e => by
          have := HOW.out.2 _ e
          omega
        have p0 := grownB hg5 p0 hnp
        have p1 := grownB hg5 p1 hnp
        have HF5 := Lib.hid (And.intro hown5 (hb5 _ (HBW.out.tr B3)))
        clear hown5 hb5 hs5 hg5 hat5 hlt5 hnp
        go_wp2_with fail
        go_quiet ((go_at_call 33; exact quiet_p (c_impl_period pl aup cup _ hpn)))
        go_wp2_with fail
        exact ⟨⟨k + 1, by omega, by go_num, by rw [HBE.out], by rw [HSS.out]; exact HF5.out.1.drN _, HF5.out.2.drN _⟩, by simp [intOf]; omega⟩
      · obtain rfl : n = k := by omega
        have hrow := OwnRow.rd (rowS_len h) hown
        obtain ⟨au, cu, rfl, hlu, -⟩ := OwnRow.rd (rowS_len h) hown
        have hsn : (stT h X n).length = n := stT_len h X n
        have HROW := Lib.hid hrow
        rw [hsn]
        have hbt := HBT.out n (by rw [Hn.out]; exact Nat.le_refl _)
        obtain ⟨bk, Hbk⟩ : ∃ bk, Hid (beatN X n = bk) := ⟨_, rfl⟩
        rw [Hbk.out] at hbt ⊢
        have hbk0 := hbt.1
        have hbk1 : bk ≤ 1920 := by have := hbt.2; omega
        have HOW := Lib.hid hown
        have HBW := Lib.hid hb
        have HMS : Hid (∀ x ∈ stT h X n, x ∈ maskL (headN X) h) := fun x hx => by
          obtain ⟨i, hi, rfl⟩ := List.mem_map.1 hx
          exact HST.out i (by rw [Hn.out]; exact List.mem_range.1 hi)
        have HAN : Hid (amongL h (stT h X n) = ordCs h X n) := by have := HAM.out; rw [Hn.out] at this; exact this
        have hnn : n ≤ 1000000000 := by omega
        have hsn2 : (stT h X n).length ≤ 1000000 := by omega
        have HSN := Lib.hid hsn
        clear hown hb hrow hsn hbt k0 k1
        go_wp2_with fail
        refine wp_region_noPanic ?_
        refine wp_region_held_drew (S := fun _ => True) (by kernel_rfl) ?_ (fun hHeld => ?_)
        · exact True.intro
        (refine wpAnyH_take (i := 0) (v := ?tv13) rfl (by kernel_rfl) (by kernel_rfl) (by kernel_rfl) (fun _ _ _ h => h) (Or.inl ⟨by rfl, ?thy13⟩) (by assumption) ?trest13; case thy13 => (intro w hSw; (try dsimp only at hSw); go_simp; (try with_reducible rfl)); (try simp only [Act.put, List.getElem_toArray, List.getElem_cons_zero, List.getElem_cons_succ, List.setIfInBounds_toArray, List.set_cons_zero, List.set_cons_succ])); (refine wpAnyH_take (i := 2) (v := ?tv14) rfl (by kernel_rfl) (by kernel_rfl) (by kernel_rfl) (fun _ _ _ h => h) (Or.inl ⟨by rfl, ?thy14⟩) (by assumption) ?trest14; case thy14 => (intro w hSw; (try dsimp only at hSw); go_simp; (try with_reducible rfl)); (try simp only [Act.put, List.getElem_toArray, List.getElem_cons_zero, List.getElem_cons_succ, List.setIfInBounds_toArray, List.set_cons_zero, List.set_cons_succ])); (refine wpAnyH_take (i := 3) (v := ?tv15) rfl (by kernel_rfl) (by kernel_rfl) (by kernel_rfl) (fun _ _ _ h => h) (Or.inl ⟨by rfl, ?thy15⟩) (by assumption) ?trest15; case thy15 => (intro w hSw; (try dsimp only at hSw); go_simp; (try with_reducible rfl)); (try simp only [Act.put, List.getElem_toArray, List.getElem_cons_zero, List.getElem_cons_succ, List.setIfInBounds_toArray, List.set_cons_zero, List.set_cons_succ]))
        refine wpAnyH_ready (rs := [1, 4]) (by kernel_rfl) (by simp) ?_
        refine (AllReadyH.cons (i := 1) rfl (fun K hK => ?_) (AllReadyH.cons (i := 4) rfl (fun K hK => ?_) AllReadyH.nil))
        · go_simp
          refine (c_impl_distancesAmong (headN X) h (stT h X n) _ _ hh (by have := HROW.out; rw [HSN.out] at this; exact this.below ((Below.refl _ _).dr)) HMS.out hsn2).mono ?_; rintro e w4 ⟨uf, rfl, hog, hb4⟩
          rw [HAN.out] at hog
          obtain ⟨vs, hcst, hclt⟩ := ownG_cst hog
          obtain ⟨af, cf, huf⟩ := cst_form hcst
          rw [ordCs_len] at huf
          subst huf
          refine hK.out _ _ True.intro (fun hHeld => ?_)
          clear hK K
          (try simp only [Act.put, List.getElem_toArray, List.getElem_cons_zero, List.getElem_cons_succ, List.setIfInBounds_toArray, List.set_cons_zero, List.set_cons_succ])
          refine wpAnyH_ready (rs := [4]) (by kernel_rfl) (by simp) ?_; refine AllReadyH.cons (i := 4) rfl (fun K hK => ?_) AllReadyH.nil
          (try simp only [Act.put, List.getElem_toArray, List.getElem_cons_zero, List.getElem_cons_succ, List.setIfInBounds_toArray, List.set_cons_zero, List.set_cons_succ])
          rw [if_pos (by rfl)]
          refine wp_make_bool rfl _ _ _ _ rfl Try.underlying40 (by kernel_rfl) 0 w4 _ _ _ _ n (by rfl) (by rfl) rfl rfl hnn (Nat.zero_le _) ?_
          intro w5 hbs hb5 hs5
          refine hK.out _ _ True.intro (fun hHeld => ?_)
          clear hK K
          (try simp only [Act.put, List.getElem_toArray, List.getElem_cons_zero, List.getElem_cons_succ, List.setIfInBounds_toArray, List.set_cons_zero, List.set_cons_succ])
          have hbd : Below wr.heap.size wr w4 := below_drew hb4
          have hs4 := hbd.size
          obtain ⟨bu, HBu⟩ : ∃ bu, Hid (w4.heap.size = bu) := ⟨_, rfl⟩
          have HS5 := Lib.hid (bl3_start (T := 70) (bu := bu) (hbd.tr hb5) (by exact hcst.below hb5) (by rw [← HBu.out]; exact hbs) (by rw [← HBu.out]; exact hs4) (fun k hk => by have := hclt k hk; have := HBu.out; omega) (by rw [← HBu.out]; exact hs5) hxl.1)
          rw [show w4.heap.size = bu from HBu.out]
          clear hcst hclt hbs hog hbd hs4
          (refine wpAnyH_take (i := 5) (v := ?tv16) rfl (by kernel_rfl) (by kernel_rfl) (by kernel_rfl) (fun _ _ _ h => h) (Or.inl ⟨by rfl, ?thy16⟩) (by assumption) ?trest16; case thy16 => (intro w hSw; (try dsimp only at hSw); go_simp; (try with_reducible rfl)); (try simp only [Act.put, List.getElem_toArray, List.getElem_cons_zero, List.getElem_cons_succ, List.setIfInBounds_toArray, List.set_cons_zero, List.set_cons_succ]))
          refine wpAnyH_ready (rs := [6]) (by kernel_rfl) (by simp) ?_; refine AllReadyH.cons (i := 6) rfl (fun K hK => ?_) AllReadyH.nil
          go_simp
          refine hK.out _ _ True.intro (fun hHeld => ?_)
          clear hK K
          (try simp only [Act.put, List.getElem_toArray, List.getElem_cons_zero, List.getElem_cons_succ, List.setIfInBounds_toArray, List.set_cons_zero, List.set_cons_succ])
          (refine wpAnyH_take (i := 7) (v := ?tv17) rfl (by kernel_rfl) (by kernel_rfl) (by kernel_rfl) (fun _ _ _ h => h) (Or.inl ⟨by rfl, ?thy17⟩) (by assumption) ?trest17; case thy17 => (intro w hSw; (try dsimp only at hSw); go_simp; (try with_reducible rfl)); (try simp only [Act.put, List.getElem_toArray, List.getElem_cons_zero, List.getElem_cons_succ, List.setIfInBounds_toArray, List.set_cons_zero, List.set_cons_succ]))
          refine wpAnyH_done (by kernel_rfl) ?_ _
          refine NoPanic.normal ?_
          obtain ⟨R, HBL, HR3⟩ := HS5.out
          obtain ⟨wr0, hwr0⟩ : ∃ wr0 : World, wr0 = wr := ⟨_, rfl⟩
          subst hwr0
          obtain ⟨bo, HBo⟩ : ∃ bo, Hid (w5.heap.size = bo) := ⟨_, rfl⟩
          rw [show w5.heap.size = bo from HBo.out] at HBL ⊢
          obtain ⟨wx, hwx⟩ : ∃ wx, wx = w5.alloc (Obj.cells #[.slice af n cf, .slice none 0 0, .slice none 0 0, .slice none 0 0, .slice (some ⟨bu, 0, none⟩) n n, .slice none 0 0, .int .i64 0] 70) := ⟨_, rfl⟩
          rw [← hwx] at HBL ⊢
          have B1x := HBW.out.tr HBL.b.bel
          have HBLH := Lib.hid HBL
          have HR3H := Lib.hid HR3
          have y0 := cellB B1x HK.out.1
          have y1 := cellB B1x HK.out.2
          rw [Hn.out] at y1
          have HB1X := Lib.hid B1x
          clear HBL HR3 HS5 hwx hb4 hb5 hs5 B1x
          go_wp2_with fail
          refine (c_impl_Routine_first X h _ _ (by rw [← Hn.out]; exact HRW.out.below HB1X.out) HR.out).mono ?_; rintro e w6 ⟨rfl, hb6⟩
          go_wp2_with fail
          refine (c_impl_distancesFrom h (grR X) _ hh (mem_maskL.1 HGR.out).1).mono ?_; rintro e w7 ⟨bm, rfl, hom, hb7⟩
          have hb67 := hb6.tr hb7
          have HB67 := Lib.hid hb67
          have HM7 := Lib.hid (HBLH.out.below hb67)
          have HB17 := Lib.hid (HB1X.out.tr hb67)
          have HOM := Lib.hid hom
          have HRWU : Hid (∀ W, UpdS (fun i => i = bo) w7 W → RdP W (.slice a1 X.length cap1) X) := fun W u => HRW.out.below (updS_below2 HB17.out u HB17.out.size (fun j hj => by subst hj; have := HM7.out.b.hbo; have := HBW.out.size; omega))
          have hbow : bo < w7.heap.size := HM7.out.b.lbo
          have hbm1 : w6.heap.size ≤ bm := hom.1
          have hbox : bo < w6.heap.size := Nat.lt_of_lt_of_le HBLH.out.b.lbo hb6.size
          have hbmn : ¬ bm = bo := by omega
          have hboM := HM7.out.b.hbo
          clear hom hb6 hb7 hb67 y0 y1
          go_wp2_with fail
          go_loopw [52] (fun kv wr => ∃ k : Nat, k ≤ n ∧ kv = .int .i64 k ∧ ∃ v1 v2, Bl3 28 2 bo bu n wr0 R wr v1 v2 (F.first.take k) (F.last.take k) (ordCs h X n) vs ∧ UpdS (fun i => i = bo) w7 wr ∧ (∀ b, v1.ownBlock = some b → w7.heap.size ≤ b) ∧ (∀ b, v2.ownBlock = some b → w7.heap.size ≤ b)) (fun kv _ => n - (intOf kv).toNat)
          case atStart => exact ⟨0, by omega, rfl, _, _, by simpa using HM7.out, UpdS.refl _ _, fun b hb => by simp [Value.ownBlock] at hb, fun b hb => by simp [Value.ownBlock] at hb⟩
          case round =>
            obtain ⟨k, hk, rfl, v1, v2, hM, hU, hq1, hq2⟩ := hrel
            have z0 := hU.cell (cellB HB17.out HK.out.1) (by omega)
            have z1 := hU.cell (cellB HB17.out HK.out.2) (by omega)
            rw [Hn.out] at z1
            by_cases hlt : k < n
            · have hkx : k < X.length := by rw [Hn.out]; exact hlt
              obtain ⟨ar, cr, hre, -, hrc⟩ := HROW.out
              cases hre
              obtain ⟨bs, os, rfl, hcc⟩ := hrc k (by rw [HSN.out]; exact hlt)
              have s0 := hcc 0 (.int .i64 h) rfl
              have s1 : wr0.cell? ⟨bs, os + k * 2 + 1, none⟩ = some (.int .i64 (stR h X k)) := hcc 1 _ (by
                have e : (stT h X n)[k]'(by rw [HSN.out]; exact hlt) = stR h X k := by
                  have := stT_at (h := h) (X := X) hlt
                  rw [List.getD_eq_getElem?_getD, List.getElem?_eq_getElem (by rw [HSN.out]; exact hlt)] at this
                  exact this
                rw [e]; rfl)
              have hbs : bs < wr0.heap.size := World.block_lt_of_cell? wr0 _ s1
              rw [Nat.add_zero] at s0
              have B07 := HBLH.out.b.bel.tr HB67.out
              have s0 := hU.cell (cellB B07 s0) (by omega)
              have s1 := hU.cell (cellB B07 s1) (by omega)
              have hstm := HST.out k hkx
              obtain ⟨st, Hst⟩ : ∃ st, Hid (stR h X k = st) := ⟨_, rfl⟩
              rw [Hst.out] at s1 hstm
              have hstq := (mem_maskL.1 hstm).1
              have hstb := HMB.out st hstm
              have HX1 := Lib.hid (HF1.out k hkx)
              have HX2 := Lib.hid (HF2.out k hkx)
              have HG1 : Hid ((dist (adjM h) (grR X) st).getD 0 = ordE h X k) := by
                have e := HFL.out (grR X) st HGR.out hstm
                unfold Hid
                rw [show (dist (adjM h) (grR X) st).getD 0 = farM h (grR X) st from rfl, e, ← Hst.out]; rfl
              have HG2 : Hid ((dist (adjM h) st (grR X)).getD 0 = ordB h X k) := by
                have e := HFL.out st (grR X) hstm HGR.out
                unfold Hid
                rw [show (dist (adjM h) st (grR X)).getD 0 = farM h st (grR X) from rfl, e, ← Hst.out]; rfl
              obtain ⟨le, Hle⟩ : ∃ le, Hid (ordE h X k = le) := ⟨_, rfl⟩
              obtain ⟨lx, Hlx⟩ : ∃ lx, Hid (ordB h X k = lx) := ⟨_, rfl⟩
              rw [Hle.out] at HG1 HX1
              rw [Hlx.out] at HG2 HX2
              have hl1 : (F.first.take k).length = k := by rw [List.length_take, HF.out.1, Hn.out]; omega
              have hl2 : (F.last.take k).length = k := by rw [List.length_take, HF.out.2, Hn.out]; omega
              obtain ⟨L1, HL1⟩ : ∃ L, Hid (F.first.take k = L) := ⟨_, rfl⟩
              obtain ⟨L2, HL2⟩ : ∃ L, Hid (F.last.take k = L) := ⟨_, rfl⟩
              rw [HL1.out] at hM hl1 HX1
              rw [HL2.out] at hM hl2 HX2
              have hkl1 : L1.length < 1000000000 := by omega
              have hkl2 : L2.length < 1000000000 := by omega
              obtain ⟨p1, c1', hv1, -, -⟩ := hM.b.o1.rd
              obtain ⟨p2, c2', hv2, -, -⟩ := hM.b.o2.rd
              rw [hl1] at hv1
              rw [hl2] at hv2
              subst hv1 hv2
              have HLEN := Lib.hid (And.intro hl1 hl2)
              have hsi := hU.size
              have hs17 := HB17.out.size
              -- the state's own box
              have BA : Below wr.heap.size wr (wr.alloc (.cells #[.int .i64 h, .int .i64 st] 63)) := (Below.refl _ _).al _
              have MA := hM.below BA
              have hbu1 : bu < (wr.alloc (.cells #[.int .i64 h, .int .i64 st] 63)).heap.size := World.block_lt_of_cell? _ _ (MA.b.us 0 (by omega)).1
              have UA : UpdS (fun i => i = bo) w7 (wr.alloc (.cells #[.int .i64 h, .int .i64 st] 63)) := hU.trans (UpdS.of_below BA) (fun _ _ d => d)
              obtain ⟨WA, HWA⟩ : ∃ WA, Hid (WA = wr.alloc (.cells #[.int .i64 h, .int .i64 st] 63)) := ⟨_, rfl⟩
              have b0 : WA.cell? ⟨wr.heap.size, 0, none⟩ = some (.int .i64 h) := by rw [HWA.out]; exact World.cell?_alloc_at _ _ _ _ rfl
              have b1 : WA.cell? ⟨wr.heap.size, 1, none⟩ = some (.int .i64 st) := by rw [HWA.out]; exact World.cell?_alloc_at _ _ _ _ rfl
              rw [← HWA.out] at MA hbu1 UA
              have z0 := cellB (by rw [HWA.out]; exact BA : Below wr.heap.size wr WA) z0
              have z1 := cellB (by rw [HWA.out]; exact BA : Below wr.heap.size wr WA) z1
              have hk0 : (0 : Int) ≤ (k : Int) := by omega
              have hkn : (k : Int) < (n : Int) := by omega
              have hso : wr.heap.size < WA.heap.size := by rw [HWA.out, World.size_alloc]; omega
              obtain ⟨bx, HBX⟩ : ∃ bx, Hid (wr.heap.size = bx) := ⟨_, rfl⟩
              have hbob : bo < wr.heap.size := hM.b.lbo
              rw [show wr.heap.size = bx from HBX.out] at b0 b1 hbob hso
              have HMA := Lib.hid MA
              have HUA := Lib.hid UA
              have HS01 := Lib.hid (And.intro s0 s1)
              have HV1 : Hid (∀ b, (Value.slice p1 k c1').ownBlock = some b → b < bx) := fun b hb => by have := (World.ownsRow.lt hM.b.o1 b hb).2; have := HBX.out; omega
              have HV2 : Hid (∀ b, (Value.slice p2 k c2').ownBlock = some b → b < bx) := fun b hb => by have := (World.ownsRow.lt hM.b.o2 b hb).2; have := HBX.out; omega
              have HQ12 := Lib.hid (And.intro hq1 hq2)
              clear hM MA UA hl1 hl2 hcc hrc BA hU hq1 hq2
              go_wp2_with fail
              rw [← HWA.out]
              rw [show wr.heap.size = bx from HBX.out]
              have om := Lib.hid (ownM_upd HOM.out HUA.out hbmn)
              have hrun : (Instr.lookup 71 (.map (some bm)) (.int .i64 st) false).run Try.prog WA.drew = .ok (.int .i64 le) WA.drew := by
                have e := OwnM.run_get (OwnM.below om.out ((Below.refl _ _).dr)) Try.underlying71 Try.underlying2 Try.underlying2 zeroI st (by omega)
                rw [HG1.out] at e; exact e
              have c1 := HMA.out.b.c1
              have c1d : WA.drew.cell? ⟨bo, 1, none⟩ = some (.slice p1 k c1') := c1
              have b1d : WA.drew.cell? ⟨bx, 1, none⟩ = some (.int .i64 st) := b1
              have c1a : ∀ ob, (WA.alloc ob).drew.cell? ⟨bo, 1, none⟩ = some (.slice p1 k c1') := fun ob => cellB (((Below.refl _ _).al _).dr) c1
              have b1a : ∀ ob, (WA.alloc ob).drew.cell? ⟨bx, 1, none⟩ = some (.int .i64 st) := fun ob => cellB (((Below.refl _ _).al _).dr) b1
              have hsA : wr0.heap.size ≤ WA.heap.size := HMA.out.b.bel.size
              
              refine wp_region_noPanic ?_; refine wp_region_L (S := untilL 10 13 (fun w' => w'.cell? ⟨bo, 1, none⟩ = some (.slice p1 k c1')) (fun w' => w'.cell? ⟨bx, 1, none⟩ = some (.int .i64 st))) (by kernel_rfl) ?_
              (refine wpAnyL_take (S0 := (fun _ => True)) (i := 0) (q := 11) (v := ?lv18) rfl rfl (by kernel_rfl) (by kernel_rfl) (by kernel_rfl) (by kernel_rfl) (by kernel_rfl) (fun _ _ _ h => h) (fun _ _ _ _ => True.intro) (untilL_set (by decide) (by decide)) (Or.inl ⟨by rfl, ?lhy18⟩) ⟨fun _ => c1d, fun _ => b1d⟩ ?lrest18; case lhy18 => (intro w hSw; (try dsimp only at hSw); go_simp; (try with_reducible rfl)); (try simp only [Act.put, List.getElem_toArray, List.getElem_cons_zero, List.getElem_cons_succ, List.setIfInBounds_toArray, List.set_cons_zero, List.set_cons_succ])); (refine wpAnyL_take (S0 := (fun _ => True)) (i := 1) (q := 2) (v := ?lv19) rfl rfl (by kernel_rfl) (by kernel_rfl) (by kernel_rfl) (by kernel_rfl) (by kernel_rfl) (fun _ _ _ h => h) (fun _ _ _ _ => True.intro) (untilL_set (by decide) (by decide)) (Or.inl ⟨by rfl, ?lhy19⟩) ⟨fun _ => c1d, fun _ => b1d⟩ ?lrest19; case lhy19 => (intro w hSw; (try dsimp only at hSw); go_simp; (try with_reducible rfl)); (try simp only [Act.put, List.getElem_toArray, List.getElem_cons_zero, List.getElem_cons_succ, List.setIfInBounds_toArray, List.set_cons_zero, List.set_cons_succ])); (refine wpAnyL_take (S0 := (fun _ => True)) (i := 2) (q := 3) (v := ?lv20) rfl rfl (by kernel_rfl) (by kernel_rfl) (by kernel_rfl) (by kernel_rfl) (by kernel_rfl) (fun _ _ _ h => h) (fun _ _ _ _ => True.intro) (untilL_set (by decide) (by decide)) (Or.inl ⟨by rfl, ?lhy20⟩) ⟨fun _ => c1d, fun _ => b1d⟩ ?lrest20; case lhy20 => (intro w hSw; (try dsimp only at hSw); go_simp; (try with_reducible rfl)); (try simp only [Act.put, List.getElem_toArray, List.getElem_cons_zero, List.getElem_cons_succ, List.setIfInBounds_toArray, List.set_cons_zero, List.set_cons_succ])); (refine wpAnyL_take (S0 := (fun _ => True)) (i := 3) (q := 4) (v := ?lv21) rfl rfl (by kernel_rfl) (by kernel_rfl) (by kernel_rfl) (by kernel_rfl) (by kernel_rfl) (fun _ _ _ h => h) (fun _ _ _ _ => True.intro) (untilL_set (by decide) (by decide)) (Or.inl ⟨by rfl, ?lhy21⟩) ⟨fun _ => c1d, fun _ => b1d⟩ ?lrest21; case lhy21 => (intro w hSw; (try dsimp only at hSw); go_simp; (try with_reducible rfl)); (try simp only [Act.put, List.getElem_toArray, List.getElem_cons_zero, List.getElem_cons_succ, List.setIfInBounds_toArray, List.set_cons_zero, List.set_cons_succ])); (refine wpAnyL_take (S0 := (fun w' => w'.cell? ⟨bo, 1, none⟩ = some (.slice p1 k c1'))) (i := 4) (q := 10) (v := ?lv22) rfl rfl (by kernel_rfl) (by kernel_rfl) (by kernel_rfl) (by kernel_rfl) (by kernel_rfl) (fun _ _ _ h => h) (fun _ _ hq hS => hS.1 hq) (untilL_set (by decide) (by decide)) (Or.inl ⟨by rfl, ?lhy22⟩) ⟨fun _ => c1d, fun _ => b1d⟩ ?lrest22; case lhy22 => (intro w hSw; (try dsimp only at hSw); go_simp; (try with_reducible rfl)); (try simp only [Act.put, List.getElem_toArray, List.getElem_cons_zero, List.getElem_cons_succ, List.setIfInBounds_toArray, List.set_cons_zero, List.set_cons_succ])); (refine wpAnyL_take (S0 := (fun _ => True)) (i := 5) (q := 8) (v := ?lv23) rfl rfl (by kernel_rfl) (by kernel_rfl) (by kernel_rfl) (by kernel_rfl) (by kernel_rfl) (fun _ _ _ h => h) (fun _ _ _ _ => True.intro) (untilL_set (by decide) (by decide)) (Or.inl ⟨by rfl, ?lhy23⟩) ⟨fun _ => c1d, fun _ => b1d⟩ ?lrest23; case lhy23 => (intro w hSw; (try dsimp only at hSw); go_simp; (try with_reducible rfl)); (try simp only [Act.put, List.getElem_toArray, List.getElem_cons_zero, List.getElem_cons_succ, List.setIfInBounds_toArray, List.set_cons_zero, List.set_cons_succ])); (refine wpAnyL_take (S0 := (fun _ => True)) (i := 6) (q := 7) (v := ?lv24) rfl rfl (by kernel_rfl) (by kernel_rfl) (by kernel_rfl) (by kernel_rfl) (by kernel_rfl) (fun _ _ _ h => h) (fun _ _ _ _ => True.intro) (untilL_set (by decide) (by decide)) (Or.inl ⟨by rfl, ?lhy24⟩) ⟨fun _ => c1d, fun _ => b1d⟩ ?lrest24; case lhy24 => (intro w hSw; (try dsimp only at hSw); go_simp; (try with_reducible rfl)); (try simp only [Act.put, List.getElem_toArray, List.getElem_cons_zero, List.getElem_cons_succ, List.setIfInBounds_toArray, List.set_cons_zero, List.set_cons_succ])); (refine wpAnyL_take (S0 := (fun w' => w'.cell? ⟨bx, 1, none⟩ = some (.int .i64 st))) (i := 7) (q := 13) (v := ?lv25) rfl rfl (by kernel_rfl) (by kernel_rfl) (by kernel_rfl) (by kernel_rfl) (by kernel_rfl) (fun _ _ _ h => h) (fun _ _ hq hS => hS.2 hq) (untilL_set (by decide) (by decide)) (Or.inl ⟨by rfl, ?lhy25⟩) ⟨fun _ => c1d, fun _ => b1d⟩ ?lrest25; case lhy25 => (intro w hSw; (try dsimp only at hSw); go_simp; (try with_reducible rfl)); (try simp only [Act.put, List.getElem_toArray, List.getElem_cons_zero, List.getElem_cons_succ, List.setIfInBounds_toArray, List.set_cons_zero, List.set_cons_succ]))
              refine wpAnyL_ready (rs := [8]) (by kernel_rfl) (by simp) ?_; refine AllReadyL.cons (i := 8) rfl (fun K hK => ?_) AllReadyL.nil
              go_simp
              refine hK.out _ _ ⟨(fun _ => c1d), (fun _ => b1d)⟩ (fun hHeld => ?_); clear hK K; (try simp only [Act.put, List.getElem_toArray, List.getElem_cons_zero, List.getElem_cons_succ, List.setIfInBounds_toArray, List.set_cons_zero, List.set_cons_succ])
              refine wpAnyL_ready (rs := [9]) (by kernel_rfl) (by simp) ?_; refine AllReadyL.cons (i := 9) rfl (fun K hK => ?_) AllReadyL.nil
              go_simp
              refine hK.out _ _ ⟨(fun _ => c1a _), (fun _ => b1a _)⟩ (fun hHeld => ?_); clear hK K; (try simp only [Act.put, List.getElem_toArray, List.getElem_cons_zero, List.getElem_cons_succ, List.setIfInBounds_toArray, List.set_cons_zero, List.set_cons_succ])
              refine wpAnyL_ready (rs := [10]) (by kernel_rfl) (by simp) ?_; refine AllReadyL.cons (i := 10) rfl (fun K hK => ?_) AllReadyL.nil
              refine step_push_i rfl _ _ _ rfl Try.underlying28 infoI wr0.heap.size _ L1 le WA.heap.size _ rfl rfl ?_ (by exact (HMA.out.below (((Below.refl _ _).al _).dr)).b.o1) hkl1 (by show wr0.heap.size ≤ (WA.alloc _).heap.size; rw [World.size_alloc]; exact Nat.le_succ_of_le hsA) ?_
              · exact World.cell?_alloc_at _ _ _ _ rfl
              intro v3 w3 ho3 hg3 hat3 hs3
              have BA3 : Below WA.heap.size WA (WA.alloc (.cells #[Value.int IntKind.i64 le] 2)).drew := ((Below.refl _ _).al _).dr
              have C3 := (HMA.out.below BA3).grow1 ho3 hg3 (hat_ge hat3 (Nat.le_refl _)) (by show bu < (WA.alloc _).heap.size; rw [World.size_alloc]; exact Nat.lt_succ_of_lt hbu1)
              rcases ho3.shape with ⟨-, hnil⟩ | ⟨g3, p3, rfl, -⟩
              · exact absurd hnil (by simp)
              have hln3 : (L1 ++ [le]).length = k + 1 := by rw [List.length_append, HLEN.out.1]; rfl
              rw [hln3] at C3 ⊢
              have c13 := C3.1.c1
              have f13 := C3.1.fr 1 (by decide)
              have nbx : (Value.slice p1 k c1').ownBlock ≠ some bx := fun e => by have := HV1.out bx e; omega
              have b03 : w3.cell? ⟨bx, 0, none⟩ = some (.int .i64 h) := grownB hg3 (cellB BA3 b0) nbx
              have b13 : w3.cell? ⟨bx, 1, none⟩ = some (.int .i64 st) := grownB hg3 (cellB BA3 b1) nbx
              have U3 : UpdS (fun i => i = bo) w7 w3 := (HUA.out.trans (UpdS.of_below BA3) (fun _ _ d => d)).trans (UpdS.of_grown hg3 (D := fun b => (Value.slice p1 k c1').ownBlock = some b) (fun b hb => hb)) (fun i hi d => by have := HQ12.out.1 i d; omega)
              have hq3 : ∀ b, (Value.slice (some ⟨g3, 0, none⟩) (k + 1) p3).ownBlock = some b → w7.heap.size ≤ b := fun b hb => by
                rcases hat3 with e | e
                · exact HQ12.out.1 b (show (Value.slice p1 k c1').ownBlock = some b from e.symm.trans hb)
                · have hb' : some g3 = some b := hb
                  have e' : some g3 = some (WA.alloc _).heap.size := e
                  rw [World.size_alloc] at e'
                  cases hb'
                  cases e'
                  have := HUA.out.size
                  omega
              have HC3 := Lib.hid (And.intro C3.2 (And.intro U3 hq3))
              clear C3 U3 hq3 ho3 hg3 hat3 hs3 hln3 BA3 hrun
              
              refine hK.out _ _ ⟨(fun h => Bool.noConfusion (show true = false from h)), (fun _ => b13)⟩ (fun hHeld => ?_); clear hK K; (try simp only [Act.put, List.getElem_toArray, List.getElem_cons_zero, List.getElem_cons_succ, List.setIfInBounds_toArray, List.set_cons_zero, List.set_cons_succ])
              
              (refine wpAnyL_take (S0 := (fun _ => True)) (i := 11) (q := 12) (v := ?lv26) rfl rfl (by kernel_rfl) (by kernel_rfl) (by kernel_rfl) (by kernel_rfl) (by kernel_rfl) (fun _ _ _ h => h) (fun _ _ _ _ => True.intro) (untilL_set (by decide) (by decide)) (Or.inl ⟨by rfl, ?lhy26⟩) ⟨(fun h => Bool.noConfusion (show true = false from h)), fun _ => b13⟩ ?lrest26; case lhy26 => (intro w hSw; (try dsimp only at hSw); go_simp; (try with_reducible rfl)); (try simp only [Act.put, List.getElem_toArray, List.getElem_cons_zero, List.getElem_cons_succ, List.setIfInBounds_toArray, List.set_cons_zero, List.set_cons_succ])); (refine wpAnyL_take (S0 := (fun _ => True)) (i := 12) (q := 13) (v := ?lv27) rfl rfl (by kernel_rfl) (by kernel_rfl) (by kernel_rfl) (by kernel_rfl) (by kernel_rfl) (fun _ _ _ h => h) (fun _ _ _ _ => True.intro) (untilL_set (by decide) (by decide)) (Or.inl ⟨by rfl, ?lhy27⟩) ⟨(fun h => Bool.noConfusion (show true = false from h)), fun _ => b13⟩ ?lrest27; case lhy27 => (intro w hSw; (try dsimp only at hSw); go_simp; (try with_reducible rfl)); (try simp only [Act.put, List.getElem_toArray, List.getElem_cons_zero, List.getElem_cons_succ, List.setIfInBounds_toArray, List.set_cons_zero, List.set_cons_succ]))
              refine wpAnyL_ready (rs := [13]) (by kernel_rfl) (by simp) ?_; refine AllReadyL.cons (i := 13) rfl (fun K hK => ?_) AllReadyL.nil
              go_simp
              refine hK.out _ _ ⟨(fun h => Bool.noConfusion (show true = false from h)), (fun h => Bool.noConfusion (show true = false from h))⟩ (fun hHeld => ?_); clear hK K; (try simp only [Act.put, List.getElem_toArray, List.getElem_cons_zero, List.getElem_cons_succ, List.setIfInBounds_toArray, List.set_cons_zero, List.set_cons_succ])
              refine wpAnyL_done (by kernel_rfl) ?_ _; refine NoPanic.normal ?_
              obtain ⟨W4, HW4⟩ : ∃ W4, Hid (W4 = w3.setCell ⟨bo, 1, none⟩ (.slice (some ⟨g3, 0, none⟩) (k + 1) p3)) := ⟨_, rfl⟩
              go_wp2_with fail
              rw [← HW4.out]
              have M4 := HC3.out.1
              have U4 : UpdS (fun i => i = bo) w7 W4 := by rw [HW4.out]; exact HC3.out.2.1.trans (UpdS.of_set (D := fun i => i = bo) _ rfl) (fun _ _ d => d)
              have d0 : W4.cell? ⟨bx, 0, none⟩ = some (.int .i64 h) := by rw [HW4.out]; exact setCellO w3 b03 (Or.inl (by omega))
              have d1 : W4.cell? ⟨bx, 1, none⟩ = some (.int .i64 st) := by rw [HW4.out]; exact setCellO w3 b13 (Or.inl (by omega))
              rw [← HW4.out] at M4
              have z0 := U4.cell (cellB HB17.out HK.out.1) (by omega)
              have z1 := U4.cell (cellB HB17.out HK.out.2) (by omega)
              rw [Hn.out] at z1
              have c2 := M4.b.c2
              have H4 := Lib.hid M4
              have HU4 := Lib.hid U4
              have hs4 := M4.b.bel.size
              have hlu4 : bu < W4.heap.size := World.block_lt_of_cell? W4 _ (M4.b.us 0 (by omega)).1
              have HZ4 := Lib.hid (fun (W : World) (hb : Below W4.heap.size W4 W) => (And.intro (cellB hb c2) (And.intro (cellB hb d0) (And.intro (cellB hb d1) (And.intro (cellB hb z0) (cellB hb z1))))))
              have c2d : W4.drew.cell? ⟨bo, 2, none⟩ = some (.slice p2 k c2') := c2
              have dd : W4.drew.cell? ⟨bx, 0, none⟩ = some (.int .i64 h) ∧ W4.drew.cell? ⟨bx, 1, none⟩ = some (.int .i64 st) ∧ W4.drew.cell? ⟨w.heap.size, 0, none⟩ = some (.int .i64 h) ∧ W4.drew.cell? ⟨w.heap.size, 1, none⟩ = some (.slice a1 n cap1) := ⟨d0, d1, z0, z1⟩
              clear M4 U4 c1 c1d b1d c1a b1a b03 b13 c13 f13 b0 b1 d0 d1 z0 z1 c2
              
              refine wp_region_noPanic ?_; refine wp_region_L (S := untilL 12 15 (fun w' => w'.cell? ⟨bo, 2, none⟩ = some (.slice p2 k c2')) (fun w' => w'.cell? ⟨bx, 0, none⟩ = some (.int .i64 h) ∧ w'.cell? ⟨bx, 1, none⟩ = some (.int .i64 st) ∧ w'.cell? ⟨w.heap.size, 0, none⟩ = some (.int .i64 h) ∧ w'.cell? ⟨w.heap.size, 1, none⟩ = some (.slice a1 n cap1))) (by kernel_rfl) ?_
              (refine wpAnyL_take (S0 := (fun _ => True)) (i := 0) (q := 13) (v := ?lv28) rfl rfl (by kernel_rfl) (by kernel_rfl) (by kernel_rfl) (by kernel_rfl) (by kernel_rfl) (fun _ _ _ h => h) (fun _ _ _ _ => True.intro) (untilL_set (by decide) (by decide)) (Or.inl ⟨by rfl, ?lhy28⟩) ⟨fun _ => c2d, fun _ => dd⟩ ?lrest28; case lhy28 => (intro w hSw; (try dsimp only at hSw); go_simp; (try with_reducible rfl)); (try simp only [Act.put, List.getElem_toArray, List.getElem_cons_zero, List.getElem_cons_succ, List.setIfInBounds_toArray, List.set_cons_zero, List.set_cons_succ])); (refine wpAnyL_take (S0 := (fun _ => True)) (i := 1) (q := 2) (v := ?lv29) rfl rfl (by kernel_rfl) (by kernel_rfl) (by kernel_rfl) (by kernel_rfl) (by kernel_rfl) (fun _ _ _ h => h) (fun _ _ _ _ => True.intro) (untilL_set (by decide) (by decide)) (Or.inl ⟨by rfl, ?lhy29⟩) ⟨fun _ => c2d, fun _ => dd⟩ ?lrest29; case lhy29 => (intro w hSw; (try dsimp only at hSw); go_simp; (try with_reducible rfl)); (try simp only [Act.put, List.getElem_toArray, List.getElem_cons_zero, List.getElem_cons_succ, List.setIfInBounds_toArray, List.set_cons_zero, List.set_cons_succ])); (refine wpAnyL_take (S0 := (fun _ => True)) (i := 2) (q := 3) (v := ?lv30) rfl rfl (by kernel_rfl) (by kernel_rfl) (by kernel_rfl) (by kernel_rfl) (by kernel_rfl) (fun _ _ _ h => h) (fun _ _ _ _ => True.intro) (untilL_set (by decide) (by decide)) (Or.inl ⟨by rfl, ?lhy30⟩) ⟨fun _ => c2d, fun _ => dd⟩ ?lrest30; case lhy30 => (intro w hSw; (try dsimp only at hSw); go_simp; (try with_reducible rfl)); (try simp only [Act.put, List.getElem_toArray, List.getElem_cons_zero, List.getElem_cons_succ, List.setIfInBounds_toArray, List.set_cons_zero, List.set_cons_succ])); (refine wpAnyL_take (S0 := (fun _ => True)) (i := 3) (q := 4) (v := ?lv31) rfl rfl (by kernel_rfl) (by kernel_rfl) (by kernel_rfl) (by kernel_rfl) (by kernel_rfl) (fun _ _ _ h => h) (fun _ _ _ _ => True.intro) (untilL_set (by decide) (by decide)) (Or.inl ⟨by rfl, ?lhy31⟩) ⟨fun _ => c2d, fun _ => dd⟩ ?lrest31; case lhy31 => (intro w hSw; (try dsimp only at hSw); go_simp; (try with_reducible rfl)); (try simp only [Act.put, List.getElem_toArray, List.getElem_cons_zero, List.getElem_cons_succ, List.setIfInBounds_toArray, List.set_cons_zero, List.set_cons_succ])); (refine wpAnyL_take (S0 := (fun w' => w'.cell? ⟨bo, 2, none⟩ = some (.slice p2 k c2'))) (i := 4) (q := 12) (v := ?lv32) rfl rfl (by kernel_rfl) (by kernel_rfl) (by kernel_rfl) (by kernel_rfl) (by kernel_rfl) (fun _ _ _ h => h) (fun _ _ hq hS => hS.1 hq) (untilL_set (by decide) (by decide)) (Or.inl ⟨by rfl, ?lhy32⟩) ⟨fun _ => c2d, fun _ => dd⟩ ?lrest32; case lhy32 => (intro w hSw; (try dsimp only at hSw); go_simp; (try with_reducible rfl)); (try simp only [Act.put, List.getElem_toArray, List.getElem_cons_zero, List.getElem_cons_succ, List.setIfInBounds_toArray, List.set_cons_zero, List.set_cons_succ])); (refine wpAnyL_take (S0 := (fun w' => w'.cell? ⟨bx, 0, none⟩ = some (.int .i64 h) ∧ w'.cell? ⟨bx, 1, none⟩ = some (.int .i64 st) ∧ w'.cell? ⟨w.heap.size, 0, none⟩ = some (.int .i64 h) ∧ w'.cell? ⟨w.heap.size, 1, none⟩ = some (.slice a1 n cap1))) (i := 5) (q := 15) (v := ?lv33) rfl rfl (by kernel_rfl) (by kernel_rfl) (by kernel_rfl) (by kernel_rfl) (by kernel_rfl) (fun _ _ _ h => h) (fun _ _ hq hS => hS.2 hq) (untilL_set (by decide) (by decide)) (Or.inl ⟨by rfl, ?lhy33⟩) ⟨fun _ => c2d, fun _ => dd⟩ ?lrest33; case lhy33 => (intro w hSw; (try dsimp only at hSw); go_simp; (try with_reducible rfl)); (try simp only [Act.put, List.getElem_toArray, List.getElem_cons_zero, List.getElem_cons_succ, List.setIfInBounds_toArray, List.set_cons_zero, List.set_cons_succ])); (refine wpAnyL_take (S0 := (fun w' => w'.cell? ⟨bx, 0, none⟩ = some (.int .i64 h) ∧ w'.cell? ⟨bx, 1, none⟩ = some (.int .i64 st) ∧ w'.cell? ⟨w.heap.size, 0, none⟩ = some (.int .i64 h) ∧ w'.cell? ⟨w.heap.size, 1, none⟩ = some (.slice a1 n cap1))) (i := 7) (q := 15) (v := ?lv34) rfl rfl (by kernel_rfl) (by kernel_rfl) (by kernel_rfl) (by kernel_rfl) (by kernel_rfl) (fun _ _ _ h => h) (fun _ _ hq hS => hS.2 hq) (untilL_set (by decide) (by decide)) (Or.inl ⟨by rfl, ?lhy34⟩) ⟨fun _ => c2d, fun _ => dd⟩ ?lrest34; case lhy34 => (intro w hSw; (try dsimp only at hSw); go_simp; (try with_reducible rfl)); (try simp only [Act.put, List.getElem_toArray, List.getElem_cons_zero, List.getElem_cons_succ, List.setIfInBounds_toArray, List.set_cons_zero, List.set_cons_succ]))
              refine wpAnyL_ready (rs := [6]) (by kernel_rfl) (by simp) ?_; refine AllReadyL.cons (i := 6) rfl (fun K hK => ?_) AllReadyL.nil
              go_simp
              refine (c_impl_distancesFrom h st _ hh hstq).mono ?_; rintro e w5 ⟨b2, rfl, hom2, hb5⟩
              have hb5' : Below W4.heap.size W4 w5 := below_drew hb5
              have Z5 := HZ4.out w5 hb5'
              refine hK.out _ _ ⟨(fun _ => Z5.1), (fun _ => Z5.2)⟩ (fun hHeld => ?_); clear hK K; (try simp only [Act.put, List.getElem_toArray, List.getElem_cons_zero, List.getElem_cons_succ, List.setIfInBounds_toArray, List.set_cons_zero, List.set_cons_succ])
              refine wpAnyL_ready (rs := [8]) (by kernel_rfl) (by simp) ?_; refine AllReadyL.cons (i := 8) rfl (fun K hK => ?_) AllReadyL.nil
              go_simp
              refine (c_impl_Routine_first X h _ _ (by rw [← Hn.out]; exact (HRWU.out W4 HU4.out).below hb5') HR.out).mono ?_; rintro e w6' ⟨rfl, hb6⟩
              have hb6' := hb5'.tr hb6
              have Z6 := HZ4.out w6' hb6'
              have om2 := Lib.hid (OwnM.below hom2 hb6)
              have hrun2 : (Instr.lookup 71 (.map (some b2)) (.int .i64 (grR X)) false).run Try.prog w6' = .ok (.int .i64 lx) w6' := by
                have e := OwnM.run_get om2.out Try.underlying71 Try.underlying2 Try.underlying2 zeroI (grR X) (by have := HMB.out _ HGR.out; omega)
                rw [HG2.out] at e; exact e
              have hfld := fld1
              clear hom2 hb5 hb6
              
              refine hK.out _ _ ⟨(fun _ => Z6.1), (fun _ => Z6.2)⟩ (fun hHeld => ?_); clear hK K; (try simp only [Act.put, List.getElem_toArray, List.getElem_cons_zero, List.getElem_cons_succ, List.setIfInBounds_toArray, List.set_cons_zero, List.set_cons_succ])
              (refine wpAnyL_take (S0 := (fun _ => True)) (i := 9) (q := 10) (v := ?lv35) rfl rfl (by kernel_rfl) (by kernel_rfl) (by kernel_rfl) (by kernel_rfl) (by kernel_rfl) (fun _ _ _ h => h) (fun _ _ _ _ => True.intro) (untilL_set (by decide) (by decide)) (Or.inl ⟨by rfl, ?lhy35⟩) ⟨fun _ => Z6.1, fun _ => Z6.2⟩ ?lrest35; case lhy35 => (intro w hSw; (try dsimp only at hSw); go_simp; (try with_reducible rfl)); (try simp only [Act.put, List.getElem_toArray, List.getElem_cons_zero, List.getElem_cons_succ, List.setIfInBounds_toArray, List.set_cons_zero, List.set_cons_succ]))
              refine wpAnyL_ready (rs := [10]) (by kernel_rfl) (by simp) ?_; refine AllReadyL.cons (i := 10) rfl (fun K hK => ?_) AllReadyL.nil
              go_simp
              refine hK.out _ _ ⟨(fun _ => Z6.1), (fun _ => Z6.2)⟩ (fun hHeld => ?_); clear hK K; (try simp only [Act.put, List.getElem_toArray, List.getElem_cons_zero, List.getElem_cons_succ, List.setIfInBounds_toArray, List.set_cons_zero, List.set_cons_succ])
              refine wpAnyL_ready (rs := [11]) (by kernel_rfl) (by simp) ?_; refine AllReadyL.cons (i := 11) rfl (fun K hK => ?_) AllReadyL.nil
              go_simp
              have B6a := hb6'.al (.cells #[Value.int IntKind.i64 lx] 2)
              have Z7 := HZ4.out _ B6a
              refine hK.out _ _ ⟨(fun _ => Z7.1), (fun _ => Z7.2)⟩ (fun hHeld => ?_); clear hK K; (try simp only [Act.put, List.getElem_toArray, List.getElem_cons_zero, List.getElem_cons_succ, List.setIfInBounds_toArray, List.set_cons_zero, List.set_cons_succ])
              refine wpAnyL_ready (rs := [12]) (by kernel_rfl) (by simp) ?_; refine AllReadyL.cons (i := 12) rfl (fun K hK => ?_) AllReadyL.nil
              refine step_push_i rfl _ _ _ rfl Try.underlying28 infoI wr0.heap.size _ L2 lx w6'.heap.size _ rfl rfl ?_ (by exact (H4.out.below B6a).b.o2) hkl2 (by exact Nat.le_trans hs4 B6a.size) ?_
              · exact World.cell?_alloc_at _ _ _ _ rfl
              intro v8 w8 ho8 hg8 hat8 hs8
              have C8 := (H4.out.below B6a).grow2 ho8 hg8 (hat_ge hat8 (Nat.le_refl _)) (Nat.lt_of_lt_of_le hlu4 B6a.size)
              rcases ho8.shape with ⟨-, hnil⟩ | ⟨g8, p8, rfl, -⟩
              · exact absurd hnil (by simp)
              have hln8 : (L2 ++ [lx]).length = k + 1 := by rw [List.length_append, HLEN.out.2]; rfl
              rw [hln8] at C8 ⊢
              have c28 := C8.1.c2
              have f28 := C8.1.fr 2 (by decide)
              have nbx : (Value.slice p2 k c2').ownBlock ≠ some bx := fun e => by have := HV2.out bx e; omega
              have nwz : (Value.slice p2 k c2').ownBlock ≠ some w.heap.size := fun e => by have := HQ12.out.2 _ e; omega
              have Z8 := And.intro (grownB hg8 Z7.2.1 nbx) (And.intro (grownB hg8 Z7.2.2.1 nbx) (And.intro (grownB hg8 Z7.2.2.2.1 nwz) (grownB hg8 Z7.2.2.2.2 nwz)))
              have U8 : UpdS (fun i => i = bo) w7 w8 := (HU4.out.trans (UpdS.of_below B6a) (fun _ _ d => d)).trans (UpdS.of_grown hg8 (D := fun b => (Value.slice p2 k c2').ownBlock = some b) (fun b hb => hb)) (fun i hi d => by have := HQ12.out.2 i d; omega)
              have hq8 : ∀ b, (Value.slice (some ⟨g8, 0, none⟩) (k + 1) p8).ownBlock = some b → w7.heap.size ≤ b := fun b hb => by
                rcases hat8 with e | e
                · exact HQ12.out.2 b (show (Value.slice p2 k c2').ownBlock = some b from e.symm.trans hb)
                · have hb' : some g8 = some b := hb
                  have e' : some g8 = some (w6'.alloc _).heap.size := e
                  rw [World.size_alloc] at e'
                  cases hb'
                  cases e'
                  have := HU4.out.size
                  have := hb6'.size
                  omega
              have U9 : UpdS (fun i => i = bo) w7 (w8.setCell ⟨bo, 2, none⟩ (.slice (some ⟨g8, 0, none⟩) (k + 1) p8)) := U8.trans (UpdS.of_set (D := fun i => i = bo) _ rfl) (fun _ _ d => d)
              have HC8 := Lib.hid (And.intro C8.2 (And.intro U9 (And.intro HC3.out.2.2 hq8)))
              clear C8 U8 U9 hq8 ho8 hg8 hat8 hs8 hln8 hrun2 Z5 Z6 Z7
              
              refine hK.out _ _ ⟨(fun h => Bool.noConfusion (show true = false from h)), (fun _ => Z8)⟩ (fun hHeld => ?_); clear hK K; (try simp only [Act.put, List.getElem_toArray, List.getElem_cons_zero, List.getElem_cons_succ, List.setIfInBounds_toArray, List.set_cons_zero, List.set_cons_succ])
              
              (refine wpAnyL_take (S0 := (fun _ => True)) (i := 13) (q := 14) (v := ?lv36) rfl rfl (by kernel_rfl) (by kernel_rfl) (by kernel_rfl) (by kernel_rfl) (by kernel_rfl) (fun _ _ _ h => h) (fun _ _ _ _ => True.intro) (untilL_set (by decide) (by decide)) (Or.inl ⟨by rfl, ?lhy36⟩) ⟨(fun h => Bool.noConfusion (show true = false from h)), fun _ => Z8⟩ ?lrest36; case lhy36 => (intro w hSw; (try dsimp only at hSw); go_simp; (try with_reducible rfl)); (try simp only [Act.put, List.getElem_toArray, List.getElem_cons_zero, List.getElem_cons_succ, List.setIfInBounds_toArray, List.set_cons_zero, List.set_cons_succ])); (refine wpAnyL_take (S0 := (fun _ => True)) (i := 14) (q := 15) (v := ?lv37) rfl rfl (by kernel_rfl) (by kernel_rfl) (by kernel_rfl) (by kernel_rfl) (by kernel_rfl) (fun _ _ _ h => h) (fun _ _ _ _ => True.intro) (untilL_set (by decide) (by decide)) (Or.inl ⟨by rfl, ?lhy37⟩) ⟨(fun h => Bool.noConfusion (show true = false from h)), fun _ => Z8⟩ ?lrest37; case lhy37 => (intro w hSw; (try dsimp only at hSw); go_simp; (try with_reducible rfl)); (try simp only [Act.put, List.getElem_toArray, List.getElem_cons_zero, List.getElem_cons_succ, List.setIfInBounds_toArray, List.set_cons_zero, List.set_cons_succ]))
              refine wpAnyL_ready (rs := [15]) (by kernel_rfl) (by simp) ?_; refine AllReadyL.cons (i := 15) rfl (fun K hK => ?_) AllReadyL.nil
              go_simp
              refine hK.out _ _ ⟨(fun h => Bool.noConfusion (show true = false from h)), (fun h => Bool.noConfusion (show true = false from h))⟩ (fun hHeld => ?_); clear hK K; (try simp only [Act.put, List.getElem_toArray, List.getElem_cons_zero, List.getElem_cons_succ, List.setIfInBounds_toArray, List.set_cons_zero, List.set_cons_succ])
              refine wpAnyL_done (by kernel_rfl) ?_ _; refine NoPanic.normal ?_
              go_wp2_with fail
              go_roundw
              case rel => exact ⟨k + 1, by omega, by go_num, _, _, by rw [HX1.out, HX2.out]; exact HC8.out.1, HC8.out.2.1, HC8.out.2.2.1, HC8.out.2.2.2⟩
              case measure => simp [intOf]; omega
            · obtain rfl : n = k := by omega
              rw [List.take_of_length_le (by rw [HF.out.1, Hn.out]; omega), List.take_of_length_le (by rw [HF.out.2, Hn.out]; omega)] at hM
              have hlu : bu < wr.heap.size := World.block_lt_of_cell? wr _ (hM.b.us 0 (by omega)).1
              have hRF : RdFar (fun j => j = bo ∨ j = bu) n wr (R 0) v1 v2 F := hM.far (by omega) (by rw [HF.out.1, Hn.out]) (by rw [HF.out.2, Hn.out]) (ordCs_len _ _ _) (by rw [HFC.out, Hn.out]) (fun i hi => by
                have e : (ordCs h X n).getD i [] = ordRow h X i X.length := by unfold ordCs; simp [List.getD, hi]
                rw [e, ordRow_len, Hn.out]) (fun k hk => hk)
              have hDlt : ∀ j, (j = bo ∨ j = bu) → j < wr.heap.size := fun j hj => by
                rcases hj with rfl | rfl
                · exact hM.b.lbo
                · exact hlu
              have hA : SrchI wr0.heap.size bo bu n (fun j => j = bo ∨ j = bu) wr (R 0) v1 v2 wr (.slice none 0 0) [] (.slice none 0 0) none := by
                obtain ⟨-, s3, s4, s5, s6⟩ := HR3H.out
                have m3 := hM.b.cr 3 (by decide) (by decide) (by decide)
                have m4 := hM.b.cr 4 (by decide) (by decide) (by decide)
                have m5 := hM.b.cr 5 (by decide) (by decide) (by decide)
                have m6 := hM.b.cr 6 (by decide) (by decide) (by decide)
                rw [s3] at m3; rw [s4] at m4; rw [s5] at m5; rw [s6] at m6
                exact ⟨⟨hM.b.cr 0 (by decide) (by decide) (by decide), hM.b.c1, hM.b.c2, m3, m4, m5, m6, hM.b.fr 3 (by decide), hM.b.fr 5 (by decide), hM.b.fr 6 (by decide), fun j hj => by have := hM.b.us j hj; simpa [memO] using this, OwnI.nil _ rfl, OwnI.nil _ rfl, fun j hj => by simp [Value.ownBlock] at hj, UpdS.refl _ _, Or.inl rfl, Or.inr rfl, hM.b.ne, hM.b.lbo, hlu, hM.b.bel.size, hDlt⟩, fun _ => rfl, fun p hp => by cases hp⟩
              have hbl := hM.b.bel
              have hbo := hM.b.hbo
              have hbu := hM.b.hbu
              have HA := Lib.hid hA
              have HRF := Lib.hid hRF
              have HBE := Lib.hid (HBW.out.tr hbl)
              have hs1w := HBW.out.size
              have HWN := HW
              rw [Hn.out] at HWN
              have HBN := HB
              rw [Hn.out] at HBN
              clear hM hA hRF hbl hU hq1 hq2
              go_wp2_with fail
              refine (c_impl_step _ _ _ _ _ _ _ _ _ F HRF.out HBN.out n [] 0 _ _ none _ HA.out (PathO.nil n) (by simp) (by simp) NnO.none).mono ?_; rintro e w4 ⟨rfl, vo4, vb4, h4⟩
              rw [HWN.out] at h4
              obtain ⟨ad, m4, cap4, rfl⟩ := h4.bs q rfl
              have c5 := h4.m.c5
              have c6 : w4.cell? ⟨bo, 6, none⟩ = some (.int .i64 q.2) := h4.m.c6
              obtain ⟨hq0, hq1⟩ := HQB.out
              have hfin := HBB.out.tr (updS_below2 HBE.out h4.m.up HBE.out.size (fun j hj => by rcases hj with rfl | rfl <;> omega))
              have hob := (h4.m.ob.base HBE.out.size).base HBB.out.size
              have HOB := Lib.hid (And.intro hob hfin)
              have HRS : Hid (soL h X = q.2 + bk) := by unfold Hid; rw [HY.out.2.1, HQ.out, Hn.out, Hbk.out]; rfl
              have HRX : Hid (soX h X = q.1) := by unfold Hid; rw [HY.out.1, HQ.out]; rfl
              generalize q.2 = Q2 at *
              clear h4 hob hfin
              go_wp2_with fail
              go_quiet (fail)
              go_wp2
              go_ret3
              exact ⟨_, by rw [HRS.out, HY.out.2.2]; rfl, by rw [HRX.out]; exact HOB.out.1.below ((Below.refl _ _).drN _), HOB.out.2.tr ((Below.refl _ _).drN _)⟩
        · skip
          (try simp only [Act.put, List.getElem_toArray, List.getElem_cons_zero, List.getElem_cons_succ, List.setIfInBounds_toArray, List.set_cons_zero, List.set_cons_succ])
          rw [if_pos (by rfl)]
          refine wp_make_bool rfl _ _ _ _ rfl Try.underlying40 (by kernel_rfl) 0 wr.drew _ _ _ _ n (by rfl) (by rfl) rfl rfl hnn (Nat.zero_le _) ?_
          intro w4 hbs hb4 hs4
          refine hK.out _ _ True.intro (fun hHeld => ?_)
          clear hK K
          (try simp only [Act.put, List.getElem_toArray, List.getElem_cons_zero, List.getElem_cons_succ, List.setIfInBounds_toArray, List.set_cons_zero, List.set_cons_succ])
          refine wpAnyH_ready (rs := [1]) (by kernel_rfl) (by simp) ?_; refine AllReadyH.cons (i := 1) rfl (fun K hK => ?_) AllReadyH.nil
          go_simp
          have hbd : Below wr.heap.size wr w4 := below_drew hb4
          refine (c_impl_distancesAmong (headN X) h (stT h X n) _ _ hh (by have := HROW.out; rw [HSN.out] at this; exact this.below hbd) HMS.out hsn2).mono ?_; rintro e w5 ⟨uf, rfl, hog, hb5⟩
          rw [HAN.out] at hog
          obtain ⟨vs, hcst, hclt⟩ := ownG_cst hog
          obtain ⟨af, cf, huf⟩ := cst_form hcst
          rw [ordCs_len] at huf
          subst huf
          refine hK.out _ _ True.intro (fun hHeld => ?_)
          clear hK K
          (try simp only [Act.put, List.getElem_toArray, List.getElem_cons_zero, List.getElem_cons_succ, List.setIfInBounds_toArray, List.set_cons_zero, List.set_cons_succ])
          have hs4' : wr.heap.size < w4.heap.size := hs4
          have hs5 := hb5.size
          obtain ⟨bu, HBu⟩ : ∃ bu, Hid (wr.heap.size = bu) := ⟨_, rfl⟩
          have HS5 := Lib.hid (bl3_start (T := 70) (bu := bu) (hbd.tr hb5) (by exact cst_base hcst (Nat.le_of_lt hs4')) (by rw [← HBu.out]; exact (show BoolsAt w4 wr.heap.size n (fun _ => false) from hbs).below hb5) (by rw [← HBu.out]; exact Nat.le_refl _) (fun k hk => by have := (hcst.lt k hk).1; have := HBu.out; omega) (by rw [← HBu.out]; omega) hxl.1)
          rw [show wr.heap.size = bu from HBu.out]
          clear hcst hclt hbs hog hbd hs4 hs4'
          (refine wpAnyH_take (i := 5) (v := ?tv38) rfl (by kernel_rfl) (by kernel_rfl) (by kernel_rfl) (fun _ _ _ h => h) (Or.inl ⟨by rfl, ?thy38⟩) (by assumption) ?trest38; case thy38 => (intro w hSw; (try dsimp only at hSw); go_simp; (try with_reducible rfl)); (try simp only [Act.put, List.getElem_toArray, List.getElem_cons_zero, List.getElem_cons_succ, List.setIfInBounds_toArray, List.set_cons_zero, List.set_cons_succ]))
          refine wpAnyH_ready (rs := [6]) (by kernel_rfl) (by simp) ?_; refine AllReadyH.cons (i := 6) rfl (fun K hK => ?_) AllReadyH.nil
          go_simp
          refine hK.out _ _ True.intro (fun hHeld => ?_)
          clear hK K
          (try simp only [Act.put, List.getElem_toArray, List.getElem_cons_zero, List.getElem_cons_succ, List.setIfInBounds_toArray, List.set_cons_zero, List.set_cons_succ])
          (refine wpAnyH_take (i := 7) (v := ?tv39) rfl (by kernel_rfl) (by kernel_rfl) (by kernel_rfl) (fun _ _ _ h => h) (Or.inl ⟨by rfl, ?thy39⟩) (by assumption) ?trest39; case thy39 => (intro w hSw; (try dsimp only at hSw); go_simp; (try with_reducible rfl)); (try simp only [Act.put, List.getElem_toArray, List.getElem_cons_zero, List.getElem_cons_succ, List.setIfInBounds_toArray, List.set_cons_zero, List.set_cons_succ]))
          refine wpAnyH_done (by kernel_rfl) ?_ _
          refine NoPanic.normal ?_
          obtain ⟨R, HBL, HR3⟩ := HS5.out
          obtain ⟨wr0, hwr0⟩ : ∃ wr0 : World, wr0 = wr := ⟨_, rfl⟩
          subst hwr0
          obtain ⟨bo, HBo⟩ : ∃ bo, Hid (w5.heap.size = bo) := ⟨_, rfl⟩
          rw [show w5.heap.size = bo from HBo.out] at HBL ⊢
          obtain ⟨wx, hwx⟩ : ∃ wx, wx = w5.alloc (Obj.cells #[.slice af n cf, .slice none 0 0, .slice none 0 0, .slice none 0 0, .slice (some ⟨bu, 0, none⟩) n n, .slice none 0 0, .int .i64 0] 70) := ⟨_, rfl⟩
          rw [← hwx] at HBL ⊢
          have B1x := HBW.out.tr HBL.b.bel
          have HBLH := Lib.hid HBL
          have HR3H := Lib.hid HR3
          have y0 := cellB B1x HK.out.1
          have y1 := cellB B1x HK.out.2
          rw [Hn.out] at y1
          have HB1X := Lib.hid B1x
          clear HBL HR3 HS5 hwx hb4 hb5 hs5 B1x
          go_wp2_with fail
          refine (c_impl_Routine_first X h _ _ (by rw [← Hn.out]; exact HRW.out.below HB1X.out) HR.out).mono ?_; rintro e w6 ⟨rfl, hb6⟩
          go_wp2_with fail
          refine (c_impl_distancesFrom h (grR X) _ hh (mem_maskL.1 HGR.out).1).mono ?_; rintro e w7 ⟨bm, rfl, hom, hb7⟩
          have hb67 := hb6.tr hb7
          have HB67 := Lib.hid hb67
          have HM7 := Lib.hid (HBLH.out.below hb67)
          have HB17 := Lib.hid (HB1X.out.tr hb67)
          have HOM := Lib.hid hom
          have HRWU : Hid (∀ W, UpdS (fun i => i = bo) w7 W → RdP W (.slice a1 X.length cap1) X) := fun W u => HRW.out.below (updS_below2 HB17.out u HB17.out.size (fun j hj => by subst hj; have := HM7.out.b.hbo; have := HBW.out.size; omega))
          have hbow : bo < w7.heap.size := HM7.out.b.lbo
          have hbm1 : w6.heap.size ≤ bm := hom.1
          have hbox : bo < w6.heap.size := Nat.lt_of_lt_of_le HBLH.out.b.lbo hb6.size
          have hbmn : ¬ bm = bo := by omega
          have hboM := HM7.out.b.hbo
          clear hom hb6 hb7 hb67 y0 y1
          go_wp2_with fail
          go_loopw [52] (fun kv wr => ∃ k : Nat, k ≤ n ∧ kv = .int .i64 k ∧ ∃ v1 v2, Bl3 28 2 bo bu n wr0 R wr v1 v2 (F.first.take k) (F.last.take k) (ordCs h X n) vs ∧ UpdS (fun i => i = bo) w7 wr ∧ (∀ b, v1.ownBlock = some b → w7.heap.size ≤ b) ∧ (∀ b, v2.ownBlock = some b → w7.heap.size ≤ b)) (fun kv _ => n - (intOf kv).toNat)
          case atStart => exact ⟨0, by omega, rfl, _, _, by simpa using HM7.out, UpdS.refl _ _, fun b hb => by simp [Value.ownBlock] at hb, fun b hb => by simp [Value.ownBlock] at hb⟩
          case round =>
            obtain ⟨k, hk, rfl, v1, v2, hM, hU, hq1, hq2⟩ := hrel
            have z0 := hU.cell (cellB HB17.out HK.out.1) (by omega)
            have z1 := hU.cell (cellB HB17.out HK.out.2) (by omega)
            rw [Hn.out] at z1
            by_cases hlt : k < n
            · have hkx : k < X.length := by rw [Hn.out]; exact hlt
              obtain ⟨ar, cr, hre, -, hrc⟩ := HROW.out
              cases hre
              obtain ⟨bs, os, rfl, hcc⟩ := hrc k (by rw [HSN.out]; exact hlt)
              have s0 := hcc 0 (.int .i64 h) rfl
              have s1 : wr0.cell? ⟨bs, os + k * 2 + 1, none⟩ = some (.int .i64 (stR h X k)) := hcc 1 _ (by
                have e : (stT h X n)[k]'(by rw [HSN.out]; exact hlt) = stR h X k := by
                  have := stT_at (h := h) (X := X) hlt
                  rw [List.getD_eq_getElem?_getD, List.getElem?_eq_getElem (by rw [HSN.out]; exact hlt)] at this
                  exact this
                rw [e]; rfl)
              have hbs : bs < wr0.heap.size := World.block_lt_of_cell? wr0 _ s1
              rw [Nat.add_zero] at s0
              have B07 := HBLH.out.b.bel.tr HB67.out
              have s0 := hU.cell (cellB B07 s0) (by omega)
              have s1 := hU.cell (cellB B07 s1) (by omega)
              have hstm := HST.out k hkx
              obtain ⟨st, Hst⟩ : ∃ st, Hid (stR h X k = st) := ⟨_, rfl⟩
              rw [Hst.out] at s1 hstm
              have hstq := (mem_maskL.1 hstm).1
              have hstb := HMB.out st hstm
              have HX1 := Lib.hid (HF1.out k hkx)
              have HX2 := Lib.hid (HF2.out k hkx)
              have HG1 : Hid ((dist (adjM h) (grR X) st).getD 0 = ordE h X k) := by
                have e := HFL.out (grR X) st HGR.out hstm
                unfold Hid
                rw [show (dist (adjM h) (grR X) st).getD 0 = farM h (grR X) st from rfl, e, ← Hst.out]; rfl
              have HG2 : Hid ((dist (adjM h) st (grR X)).getD 0 = ordB h X k) := by
                have e := HFL.out st (grR X) hstm HGR.out
                unfold Hid
                rw [show (dist (adjM h) st (grR X)).getD 0 = farM h st (grR X) from rfl, e, ← Hst.out]; rfl
              obtain ⟨le, Hle⟩ : ∃ le, Hid (ordE h X k = le) := ⟨_, rfl⟩
              obtain ⟨lx, Hlx⟩ : ∃ lx, Hid (ordB h X k = lx) := ⟨_, rfl⟩
              rw [Hle.out] at HG1 HX1
              rw [Hlx.out] at HG2 HX2
              have hl1 : (F.first.take k).length = k := by rw [List.length_take, HF.out.1, Hn.out]; omega
              have hl2 : (F.last.take k).length = k := by rw [List.length_take, HF.out.2, Hn.out]; omega
              obtain ⟨L1, HL1⟩ : ∃ L, Hid (F.first.take k = L) := ⟨_, rfl⟩
              obtain ⟨L2, HL2⟩ : ∃ L, Hid (F.last.take k = L) := ⟨_, rfl⟩
              rw [HL1.out] at hM hl1 HX1
              rw [HL2.out] at hM hl2 HX2
              have hkl1 : L1.length < 1000000000 := by omega
              have hkl2 : L2.length < 1000000000 := by omega
              obtain ⟨p1, c1', hv1, -, -⟩ := hM.b.o1.rd
              obtain ⟨p2, c2', hv2, -, -⟩ := hM.b.o2.rd
              rw [hl1] at hv1
              rw [hl2] at hv2
              subst hv1 hv2
              have HLEN := Lib.hid (And.intro hl1 hl2)
              have hsi := hU.size
              have hs17 := HB17.out.size
              -- the state's own box
              have BA : Below wr.heap.size wr (wr.alloc (.cells #[.int .i64 h, .int .i64 st] 63)) := (Below.refl _ _).al _
              have MA := hM.below BA
              have hbu1 : bu < (wr.alloc (.cells #[.int .i64 h, .int .i64 st] 63)).heap.size := World.block_lt_of_cell? _ _ (MA.b.us 0 (by omega)).1
              have UA : UpdS (fun i => i = bo) w7 (wr.alloc (.cells #[.int .i64 h, .int .i64 st] 63)) := hU.trans (UpdS.of_below BA) (fun _ _ d => d)
              obtain ⟨WA, HWA⟩ : ∃ WA, Hid (WA = wr.alloc (.cells #[.int .i64 h, .int .i64 st] 63)) := ⟨_, rfl⟩
              have b0 : WA.cell? ⟨wr.heap.size, 0, none⟩ = some (.int .i64 h) := by rw [HWA.out]; exact World.cell?_alloc_at _ _ _ _ rfl
              have b1 : WA.cell? ⟨wr.heap.size, 1, none⟩ = some (.int .i64 st) := by rw [HWA.out]; exact World.cell?_alloc_at _ _ _ _ rfl
              rw [← HWA.out] at MA hbu1 UA
              have z0 := cellB (by rw [HWA.out]; exact BA : Below wr.heap.size wr WA) z0
              have z1 := cellB (by rw [HWA.out]; exact BA : Below wr.heap.size wr WA) z1
              have hk0 : (0 : Int) ≤ (k : Int) := by omega
              have hkn : (k : Int) < (n : Int) := by omega
              have hso : wr.heap.size < WA.heap.size := by rw [HWA.out, World.size_alloc]; omega
              obtain ⟨bx, HBX⟩ : ∃ bx, Hid (wr.heap.size = bx) := ⟨_, rfl⟩
              have hbob : bo < wr.heap.size := hM.b.lbo
              rw [show wr.heap.size = bx from HBX.out] at b0 b1 hbob hso
              have HMA := Lib.hid MA
              have HUA := Lib.hid UA
              have HS01 := Lib.hid (And.intro s0 s1)
              have HV1 : Hid (∀ b, (Value.slice p1 k c1').ownBlock = some b → b < bx) := fun b hb => by have := (World.ownsRow.lt hM.b.o1 b hb).2; have := HBX.out; omega
              have HV2 : Hid (∀ b, (Value.slice p2 k c2').ownBlock = some b → b < bx) := fun b hb => by have := (World.ownsRow.lt hM.b.o2 b hb).2; have := HBX.out; omega
              have HQ12 := Lib.hid (And.intro hq1 hq2)
              clear hM MA UA hl1 hl2 hcc hrc BA hU hq1 hq2
              go_wp2_with fail
              rw [← HWA.out]
              rw [show wr.heap.size = bx from HBX.out]
              have om := Lib.hid (ownM_upd HOM.out HUA.out hbmn)
              have hrun : (Instr.lookup 71 (.map (some bm)) (.int .i64 st) false).run Try.prog WA.drew = .ok (.int .i64 le) WA.drew := by
                have e := OwnM.run_get (OwnM.below om.out ((Below.refl _ _).dr)) Try.underlying71 Try.underlying2 Try.underlying2 zeroI st (by omega)
                rw [HG1.out] at e; exact e
              have c1 := HMA.out.b.c1
              have c1d : WA.drew.cell? ⟨bo, 1, none⟩ = some (.slice p1 k c1') := c1
              have b1d : WA.drew.cell? ⟨bx, 1, none⟩ = some (.int .i64 st) := b1
              have c1a : ∀ ob, (WA.alloc ob).drew.cell? ⟨bo, 1, none⟩ = some (.slice p1 k c1') := fun ob => cellB (((Below.refl _ _).al _).dr) c1
              have b1a : ∀ ob, (WA.alloc ob).drew.cell? ⟨bx, 1, none⟩ = some (.int .i64 st) := fun ob => cellB (((Below.refl _ _).al _).dr) b1
              have hsA : wr0.heap.size ≤ WA.heap.size := HMA.out.b.bel.size
              
              refine wp_region_noPanic ?_; refine wp_region_L (S := untilL 10 13 (fun w' => w'.cell? ⟨bo, 1, none⟩ = some (.slice p1 k c1')) (fun w' => w'.cell? ⟨bx, 1, none⟩ = some (.int .i64 st))) (by kernel_rfl) ?_
              (refine wpAnyL_take (S0 := (fun _ => True)) (i := 0) (q := 11) (v := ?lv40) rfl rfl (by kernel_rfl) (by kernel_rfl) (by kernel_rfl) (by kernel_rfl) (by kernel_rfl) (fun _ _ _ h => h) (fun _ _ _ _ => True.intro) (untilL_set (by decide) (by decide)) (Or.inl ⟨by rfl, ?lhy40⟩) ⟨fun _ => c1d, fun _ => b1d⟩ ?lrest40; case lhy40 => (intro w hSw; (try dsimp only at hSw); go_simp; (try with_reducible rfl)); (try simp only [Act.put, List.getElem_toArray, List.getElem_cons_zero, List.getElem_cons_succ, List.setIfInBounds_toArray, List.set_cons_zero, List.set_cons_succ])); (refine wpAnyL_take (S0 := (fun _ => True)) (i := 1) (q := 2) (v := ?lv41) rfl rfl (by kernel_rfl) (by kernel_rfl) (by kernel_rfl) (by kernel_rfl) (by kernel_rfl) (fun _ _ _ h => h) (fun _ _ _ _ => True.intro) (untilL_set (by decide) (by decide)) (Or.inl ⟨by rfl, ?lhy41⟩) ⟨fun _ => c1d, fun _ => b1d⟩ ?lrest41; case lhy41 => (intro w hSw; (try dsimp only at hSw); go_simp; (try with_reducible rfl)); (try simp only [Act.put, List.getElem_toArray, List.getElem_cons_zero, List.getElem_cons_succ, List.setIfInBounds_toArray, List.set_cons_zero, List.set_cons_succ])); (refine wpAnyL_take (S0 := (fun _ => True)) (i := 2) (q := 3) (v := ?lv42) rfl rfl (by kernel_rfl) (by kernel_rfl) (by kernel_rfl) (by kernel_rfl) (by kernel_rfl) (fun _ _ _ h => h) (fun _ _ _ _ => True.intro) (untilL_set (by decide) (by decide)) (Or.inl ⟨by rfl, ?lhy42⟩) ⟨fun _ => c1d, fun _ => b1d⟩ ?lrest42; case lhy42 => (intro w hSw; (try dsimp only at hSw); go_simp; (try with_reducible rfl)); (try simp only [Act.put, List.getElem_toArray, List.getElem_cons_zero, List.getElem_cons_succ, List.setIfInBounds_toArray, List.set_cons_zero, List.set_cons_succ])); (refine wpAnyL_take (S0 := (fun _ => True)) (i := 3) (q := 4) (v := ?lv43) rfl rfl (by kernel_rfl) (by kernel_rfl) (by kernel_rfl) (by kernel_rfl) (by kernel_rfl) (fun _ _ _ h => h) (fun _ _ _ _ => True.intro) (untilL_set (by decide) (by decide)) (Or.inl ⟨by rfl, ?lhy43⟩) ⟨fun _ => c1d, fun _ => b1d⟩ ?lrest43; case lhy43 => (intro w hSw; (try dsimp only at hSw); go_simp; (try with_reducible rfl)); (try simp only [Act.put, List.getElem_toArray, List.getElem_cons_zero, List.getElem_cons_succ, List.setIfInBounds_toArray, List.set_cons_zero, List.set_cons_succ])); (refine wpAnyL_take (S0 := (fun w' => w'.cell? ⟨bo, 1, none⟩ = some (.slice p1 k c1'))) (i := 4) (q := 10) (v := ?lv44) rfl rfl (by kernel_rfl) (by kernel_rfl) (by kernel_rfl) (by kernel_rfl) (by kernel_rfl) (fun _ _ _ h => h) (fun _ _ hq hS => hS.1 hq) (untilL_set (by decide) (by decide)) (Or.inl ⟨by rfl, ?lhy44⟩) ⟨fun _ => c1d, fun _ => b1d⟩ ?lrest44; case lhy44 => (intro w hSw; (try dsimp only at hSw); go_simp; (try with_reducible rfl)); (try simp only [Act.put, List.getElem_toArray, List.getElem_cons_zero, List.getElem_cons_succ, List.setIfInBounds_toArray, List.set_cons_zero, List.set_cons_succ])); (refine wpAnyL_take (S0 := (fun _ => True)) (i := 5) (q := 8) (v := ?lv45) rfl rfl (by kernel_rfl) (by kernel_rfl) (by kernel_rfl) (by kernel_rfl) (by kernel_rfl) (fun _ _ _ h => h) (fun _ _ _ _ => True.intro) (untilL_set (by decide) (by decide)) (Or.inl ⟨by rfl, ?lhy45⟩) ⟨fun _ => c1d, fun _ => b1d⟩ ?lrest45; case lhy45 => (intro w hSw; (try dsimp only at hSw); go_simp; (try with_reducible rfl)); (try simp only [Act.put, List.getElem_toArray, List.getElem_cons_zero, List.getElem_cons_succ, List.setIfInBounds_toArray, List.set_cons_zero, List.set_cons_succ])); (refine wpAnyL_take (S0 := (fun _ => True)) (i := 6) (q := 7) (v := ?lv46) rfl rfl (by kernel_rfl) (by kernel_rfl) (by kernel_rfl) (by kernel_rfl) (by kernel_rfl) (fun _ _ _ h => h) (fun _ _ _ _ => True.intro) (untilL_set (by decide) (by decide)) (Or.inl ⟨by rfl, ?lhy46⟩) ⟨fun _ => c1d, fun _ => b1d⟩ ?lrest46; case lhy46 => (intro w hSw; (try dsimp only at hSw); go_simp; (try with_reducible rfl)); (try simp only [Act.put, List.getElem_toArray, List.getElem_cons_zero, List.getElem_cons_succ, List.setIfInBounds_toArray, List.set_cons_zero, List.set_cons_succ])); (refine wpAnyL_take (S0 := (fun w' => w'.cell? ⟨bx, 1, none⟩ = some (.int .i64 st))) (i := 7) (q := 13) (v := ?lv47) rfl rfl (by kernel_rfl) (by kernel_rfl) (by kernel_rfl) (by kernel_rfl) (by kernel_rfl) (fun _ _ _ h => h) (fun _ _ hq hS => hS.2 hq) (untilL_set (by decide) (by decide)) (Or.inl ⟨by rfl, ?lhy47⟩) ⟨fun _ => c1d, fun _ => b1d⟩ ?lrest47; case lhy47 => (intro w hSw; (try dsimp only at hSw); go_simp; (try with_reducible rfl)); (try simp only [Act.put, List.getElem_toArray, List.getElem_cons_zero, List.getElem_cons_succ, List.setIfInBounds_toArray, List.set_cons_zero, List.set_cons_succ]))
              refine wpAnyL_ready (rs := [8]) (by kernel_rfl) (by simp) ?_; refine AllReadyL.cons (i := 8) rfl (fun K hK => ?_) AllReadyL.nil
              go_simp
              refine hK.out _ _ ⟨(fun _ => c1d), (fun _ => b1d)⟩ (fun hHeld => ?_); clear hK K; (try simp only [Act.put, List.getElem_toArray, List.getElem_cons_zero, List.getElem_cons_succ, List.setIfInBounds_toArray, List.set_cons_zero, List.set_cons_succ])
              refine wpAnyL_ready (rs := [9]) (by kernel_rfl) (by simp) ?_; refine AllReadyL.cons (i := 9) rfl (fun K hK => ?_) AllReadyL.nil
              go_simp
              refine hK.out _ _ ⟨(fun _ => c1a _), (fun _ => b1a _)⟩ (fun hHeld => ?_); clear hK K; (try simp only [Act.put, List.getElem_toArray, List.getElem_cons_zero, List.getElem_cons_succ, List.setIfInBounds_toArray, List.set_cons_zero, List.set_cons_succ])
              refine wpAnyL_ready (rs := [10]) (by kernel_rfl) (by simp) ?_; refine AllReadyL.cons (i := 10) rfl (fun K hK => ?_) AllReadyL.nil
              refine step_push_i rfl _ _ _ rfl Try.underlying28 infoI wr0.heap.size _ L1 le WA.heap.size _ rfl rfl ?_ (by exact (HMA.out.below (((Below.refl _ _).al _).dr)).b.o1) hkl1 (by show wr0.heap.size ≤ (WA.alloc _).heap.size; rw [World.size_alloc]; exact Nat.le_succ_of_le hsA) ?_
              · exact World.cell?_alloc_at _ _ _ _ rfl
              intro v3 w3 ho3 hg3 hat3 hs3
              have BA3 : Below WA.heap.size WA (WA.alloc (.cells #[Value.int IntKind.i64 le] 2)).drew := ((Below.refl _ _).al _).dr
              have C3 := (HMA.out.below BA3).grow1 ho3 hg3 (hat_ge hat3 (Nat.le_refl _)) (by show bu < (WA.alloc _).heap.size; rw [World.size_alloc]; exact Nat.lt_succ_of_lt hbu1)
              rcases ho3.shape with ⟨-, hnil⟩ | ⟨g3, p3, rfl, -⟩
              · exact absurd hnil (by simp)
              have hln3 : (L1 ++ [le]).length = k + 1 := by rw [List.length_append, HLEN.out.1]; rfl
              rw [hln3] at C3 ⊢
              have c13 := C3.1.c1
              have f13 := C3.1.fr 1 (by decide)
              have nbx : (Value.slice p1 k c1').ownBlock ≠ some bx := fun e => by have := HV1.out bx e; omega
              have b03 : w3.cell? ⟨bx, 0, none⟩ = some (.int .i64 h) := grownB hg3 (cellB BA3 b0) nbx
              have b13 : w3.cell? ⟨bx, 1, none⟩ = some (.int .i64 st) := grownB hg3 (cellB BA3 b1) nbx
              have U3 : UpdS (fun i => i = bo) w7 w3 := (HUA.out.trans (UpdS.of_below BA3) (fun _ _ d => d)).trans (UpdS.of_grown hg3 (D := fun b => (Value.slice p1 k c1').ownBlock = some b) (fun b hb => hb)) (fun i hi d => by have := HQ12.out.1 i d; omega)
              have hq3 : ∀ b, (Value.slice (some ⟨g3, 0, none⟩) (k + 1) p3).ownBlock = some b → w7.heap.size ≤ b := fun b hb => by
                rcases hat3 with e | e
                · exact HQ12.out.1 b (show (Value.slice p1 k c1').ownBlock = some b from e.symm.trans hb)
                · have hb' : some g3 = some b := hb
                  have e' : some g3 = some (WA.alloc _).heap.size := e
                  rw [World.size_alloc] at e'
                  cases hb'
                  cases e'
                  have := HUA.out.size
                  omega
              have HC3 := Lib.hid (And.intro C3.2 (And.intro U3 hq3))
              clear C3 U3 hq3 ho3 hg3 hat3 hs3 hln3 BA3 hrun
              
              refine hK.out _ _ ⟨(fun h => Bool.noConfusion (show true = false from h)), (fun _ => b13)⟩ (fun hHeld => ?_); clear hK K; (try simp only [Act.put, List.getElem_toArray, List.getElem_cons_zero, List.getElem_cons_succ, List.setIfInBounds_toArray, List.set_cons_zero, List.set_cons_succ])
              
              (refine wpAnyL_take (S0 := (fun _ => True)) (i := 11) (q := 12) (v := ?lv48) rfl rfl (by kernel_rfl) (by kernel_rfl) (by kernel_rfl) (by kernel_rfl) (by kernel_rfl) (fun _ _ _ h => h) (fun _ _ _ _ => True.intro) (untilL_set (by decide) (by decide)) (Or.inl ⟨by rfl, ?lhy48⟩) ⟨(fun h => Bool.noConfusion (show true = false from h)), fun _ => b13⟩ ?lrest48; case lhy48 => (intro w hSw; (try dsimp only at hSw); go_simp; (try with_reducible rfl)); (try simp only [Act.put, List.getElem_toArray, List.getElem_cons_zero, List.getElem_cons_succ, List.setIfInBounds_toArray, List.set_cons_zero, List.set_cons_succ])); (refine wpAnyL_take (S0 := (fun _ => True)) (i := 12) (q := 13) (v := ?lv49) rfl rfl (by kernel_rfl) (by kernel_rfl) (by kernel_rfl) (by kernel_rfl) (by kernel_rfl) (fun _ _ _ h => h) (fun _ _ _ _ => True.intro) (untilL_set (by decide) (by decide)) (Or.inl ⟨by rfl, ?lhy49⟩) ⟨(fun h => Bool.noConfusion (show true = false from h)), fun _ => b13⟩ ?lrest49; case lhy49 => (intro w hSw; (try dsimp only at hSw); go_simp; (try with_reducible rfl)); (try simp only [Act.put, List.getElem_toArray, List.getElem_cons_zero, List.getElem_cons_succ, List.setIfInBounds_toArray, List.set_cons_zero, List.set_cons_succ]))
              refine wpAnyL_ready (rs := [13]) (by kernel_rfl) (by simp) ?_; refine AllReadyL.cons (i := 13) rfl (fun K hK => ?_) AllReadyL.nil
              go_simp
              refine hK.out _ _ ⟨(fun h => Bool.noConfusion (show true = false from h)), (fun h => Bool.noConfusion (show true = false from h))⟩ (fun hHeld => ?_); clear hK K; (try simp only [Act.put, List.getElem_toArray, List.getElem_cons_zero, List.getElem_cons_succ, List.setIfInBounds_toArray, List.set_cons_zero, List.set_cons_succ])
              refine wpAnyL_done (by kernel_rfl) ?_ _; refine NoPanic.normal ?_
              obtain ⟨W4, HW4⟩ : ∃ W4, Hid (W4 = w3.setCell ⟨bo, 1, none⟩ (.slice (some ⟨g3, 0, none⟩) (k + 1) p3)) := ⟨_, rfl⟩
              go_wp2_with fail
              rw [← HW4.out]
              have M4 := HC3.out.1
              have U4 : UpdS (fun i => i = bo) w7 W4 := by rw [HW4.out]; exact HC3.out.2.1.trans (UpdS.of_set (D := fun i => i = bo) _ rfl) (fun _ _ d => d)
              have d0 : W4.cell? ⟨bx, 0, none⟩ = some (.int .i64 h) := by rw [HW4.out]; exact setCellO w3 b03 (Or.inl (by omega))
              have d1 : W4.cell? ⟨bx, 1, none⟩ = some (.int .i64 st) := by rw [HW4.out]; exact setCellO w3 b13 (Or.inl (by omega))
              rw [← HW4.out] at M4
              have z0 := U4.cell (cellB HB17.out HK.out.1) (by omega)
              have z1 := U4.cell (cellB HB17.out HK.out.2) (by omega)
              rw [Hn.out] at z1
              have c2 := M4.b.c2
              have H4 := Lib.hid M4
              have HU4 := Lib.hid U4
              have hs4 := M4.b.bel.size
              have hlu4 : bu < W4.heap.size := World.block_lt_of_cell? W4 _ (M4.b.us 0 (by omega)).1
              have HZ4 := Lib.hid (fun (W : World) (hb : Below W4.heap.size W4 W) => (And.intro (cellB hb c2) (And.intro (cellB hb d0) (And.intro (cellB hb d1) (And.intro (cellB hb z0) (cellB hb z1))))))
              have c2d : W4.drew.cell? ⟨bo, 2, none⟩ = some (.slice p2 k c2') := c2
              have dd : W4.drew.cell? ⟨bx, 0, none⟩ = some (.int .i64 h) ∧ W4.drew.cell? ⟨bx, 1, none⟩ = some (.int .i64 st) ∧ W4.drew.cell? ⟨w.heap.size, 0, none⟩ = some (.int .i64 h) ∧ W4.drew.cell? ⟨w.heap.size, 1, none⟩ = some (.slice a1 n cap1) := ⟨d0, d1, z0, z1⟩
              clear M4 U4 c1 c1d b1d c1a b1a b03 b13 c13 f13 b0 b1 d0 d1 z0 z1 c2
              
              refine wp_region_noPanic ?_; refine wp_region_L (S := untilL 12 15 (fun w' => w'.cell? ⟨bo, 2, none⟩ = some (.slice p2 k c2')) (fun w' => w'.cell? ⟨bx, 0, none⟩ = some (.int .i64 h) ∧ w'.cell? ⟨bx, 1, none⟩ = some (.int .i64 st) ∧ w'.cell? ⟨w.heap.size, 0, none⟩ = some (.int .i64 h) ∧ w'.cell? ⟨w.heap.size, 1, none⟩ = some (.slice a1 n cap1))) (by kernel_rfl) ?_
              (refine wpAnyL_take (S0 := (fun _ => True)) (i := 0) (q := 13) (v := ?lv50) rfl rfl (by kernel_rfl) (by kernel_rfl) (by kernel_rfl) (by kernel_rfl) (by kernel_rfl) (fun _ _ _ h => h) (fun _ _ _ _ => True.intro) (untilL_set (by decide) (by decide)) (Or.inl ⟨by rfl, ?lhy50⟩) ⟨fun _ => c2d, fun _ => dd⟩ ?lrest50; case lhy50 => (intro w hSw; (try dsimp only at hSw); go_simp; (try with_reducible rfl)); (try simp only [Act.put, List.getElem_toArray, List.getElem_cons_zero, List.getElem_cons_succ, List.setIfInBounds_toArray, List.set_cons_zero, List.set_cons_succ])); (refine wpAnyL_take (S0 := (fun _ => True)) (i := 1) (q := 2) (v := ?lv51) rfl rfl (by kernel_rfl) (by kernel_rfl) (by kernel_rfl) (by kernel_rfl) (by kernel_rfl) (fun _ _ _ h => h) (fun _ _ _ _ => True.intro) (untilL_set (by decide) (by decide)) (Or.inl ⟨by rfl, ?lhy51⟩) ⟨fun _ => c2d, fun _ => dd⟩ ?lrest51; case lhy51 => (intro w hSw; (try dsimp only at hSw); go_simp; (try with_reducible rfl)); (try simp only [Act.put, List.getElem_toArray, List.getElem_cons_zero, List.getElem_cons_succ, List.setIfInBounds_toArray, List.set_cons_zero, List.set_cons_succ])); (refine wpAnyL_take (S0 := (fun _ => True)) (i := 2) (q := 3) (v := ?lv52) rfl rfl (by kernel_rfl) (by kernel_rfl) (by kernel_rfl) (by kernel_rfl) (by kernel_rfl) (fun _ _ _ h => h) (fun _ _ _ _ => True.intro) (untilL_set (by decide) (by decide)) (Or.inl ⟨by rfl, ?lhy52⟩) ⟨fun _ => c2d, fun _ => dd⟩ ?lrest52; case lhy52 => (intro w hSw; (try dsimp only at hSw); go_simp; (try with_reducible rfl)); (try simp only [Act.put, List.getElem_toArray, List.getElem_cons_zero, List.getElem_cons_succ, List.setIfInBounds_toArray, List.set_cons_zero, List.set_cons_succ])); (refine wpAnyL_take (S0 := (fun _ => True)) (i := 3) (q := 4) (v := ?lv53) rfl rfl (by kernel_rfl) (by kernel_rfl) (by kernel_rfl) (by kernel_rfl) (by kernel_rfl) (fun _ _ _ h => h) (fun _ _ _ _ => True.intro) (untilL_set (by decide) (by decide)) (Or.inl ⟨by rfl, ?lhy53⟩) ⟨fun _ => c2d, fun _ => dd⟩ ?lrest53; case lhy53 => (intro w hSw; (try dsimp only at hSw); go_simp; (try with_reducible rfl)); (try simp only [Act.put, List.getElem_toArray, List.getElem_cons_zero, List.getElem_cons_succ, List.setIfInBounds_toArray, List.set_cons_zero, List.set_cons_succ])); (refine wpAnyL_take (S0 := (fun w' => w'.cell? ⟨bo, 2, none⟩ = some (.slice p2 k c2'))) (i := 4) (q := 12) (v := ?lv54) rfl rfl (by kernel_rfl) (by kernel_rfl) (by kernel_rfl) (by kernel_rfl) (by kernel_rfl) (fun _ _ _ h => h) (fun _ _ hq hS => hS.1 hq) (untilL_set (by decide) (by decide)) (Or.inl ⟨by rfl, ?lhy54⟩) ⟨fun _ => c2d, fun _ => dd⟩ ?lrest54; case lhy54 => (intro w hSw; (try dsimp only at hSw); go_simp; (try with_reducible rfl)); (try simp only [Act.put, List.getElem_toArray, List.getElem_cons_zero, List.getElem_cons_succ, List.setIfInBounds_toArray, List.set_cons_zero, List.set_cons_succ])); (refine wpAnyL_take (S0 := (fun w' => w'.cell? ⟨bx, 0, none⟩ = some (.int .i64 h) ∧ w'.cell? ⟨bx, 1, none⟩ = some (.int .i64 st) ∧ w'.cell? ⟨w.heap.size, 0, none⟩ = some (.int .i64 h) ∧ w'.cell? ⟨w.heap.size, 1, none⟩ = some (.slice a1 n cap1))) (i := 5) (q := 15) (v := ?lv55) rfl rfl (by kernel_rfl) (by kernel_rfl) (by kernel_rfl) (by kernel_rfl) (by kernel_rfl) (fun _ _ _ h => h) (fun _ _ hq hS => hS.2 hq) (untilL_set (by decide) (by decide)) (Or.inl ⟨by rfl, ?lhy55⟩) ⟨fun _ => c2d, fun _ => dd⟩ ?lrest55; case lhy55 => (intro w hSw; (try dsimp only at hSw); go_simp; (try with_reducible rfl)); (try simp only [Act.put, List.getElem_toArray, List.getElem_cons_zero, List.getElem_cons_succ, List.setIfInBounds_toArray, List.set_cons_zero, List.set_cons_succ])); (refine wpAnyL_take (S0 := (fun w' => w'.cell? ⟨bx, 0, none⟩ = some (.int .i64 h) ∧ w'.cell? ⟨bx, 1, none⟩ = some (.int .i64 st) ∧ w'.cell? ⟨w.heap.size, 0, none⟩ = some (.int .i64 h) ∧ w'.cell? ⟨w.heap.size, 1, none⟩ = some (.slice a1 n cap1))) (i := 7) (q := 15) (v := ?lv56) rfl rfl (by kernel_rfl) (by kernel_rfl) (by kernel_rfl) (by kernel_rfl) (by kernel_rfl) (fun _ _ _ h => h) (fun _ _ hq hS => hS.2 hq) (untilL_set (by decide) (by decide)) (Or.inl ⟨by rfl, ?lhy56⟩) ⟨fun _ => c2d, fun _ => dd⟩ ?lrest56; case lhy56 => (intro w hSw; (try dsimp only at hSw); go_simp; (try with_reducible rfl)); (try simp only [Act.put, List.getElem_toArray, List.getElem_cons_zero, List.getElem_cons_succ, List.setIfInBounds_toArray, List.set_cons_zero, List.set_cons_succ]))
              refine wpAnyL_ready (rs := [6]) (by kernel_rfl) (by simp) ?_; refine AllReadyL.cons (i := 6) rfl (fun K hK => ?_) AllReadyL.nil
              go_simp
              refine (c_impl_distancesFrom h st _ hh hstq).mono ?_; rintro e w5 ⟨b2, rfl, hom2, hb5⟩
              have hb5' : Below W4.heap.size W4 w5 := below_drew hb5
              have Z5 := HZ4.out w5 hb5'
              refine hK.out _ _ ⟨(fun _ => Z5.1), (fun _ => Z5.2)⟩ (fun hHeld => ?_); clear hK K; (try simp only [Act.put, List.getElem_toArray, List.getElem_cons_zero, List.getElem_cons_succ, List.setIfInBounds_toArray, List.set_cons_zero, List.set_cons_succ])
              refine wpAnyL_ready (rs := [8]) (by kernel_rfl) (by simp) ?_; refine AllReadyL.cons (i := 8) rfl (fun K hK => ?_) AllReadyL.nil
              go_simp
              refine (c_impl_Routine_first X h _ _ (by rw [← Hn.out]; exact (HRWU.out W4 HU4.out).below hb5') HR.out).mono ?_; rintro e w6' ⟨rfl, hb6⟩
              have hb6' := hb5'.tr hb6
              have Z6 := HZ4.out w6' hb6'
              have om2 := Lib.hid (OwnM.below hom2 hb6)
              have hrun2 : (Instr.lookup 71 (.map (some b2)) (.int .i64 (grR X)) false).run Try.prog w6' = .ok (.int .i64 lx) w6' := by
                have e := OwnM.run_get om2.out Try.underlying71 Try.underlying2 Try.underlying2 zeroI (grR X) (by have := HMB.out _ HGR.out; omega)
                rw [HG2.out] at e; exact e
              have hfld := fld1
              clear hom2 hb5 hb6
              
              refine hK.out _ _ ⟨(fun _ => Z6.1), (fun _ => Z6.2)⟩ (fun hHeld => ?_); clear hK K; (try simp only [Act.put, List.getElem_toArray, List.getElem_cons_zero, List.getElem_cons_succ, List.setIfInBounds_toArray, List.set_cons_zero, List.set_cons_succ])
              (refine wpAnyL_take (S0 := (fun _ => True)) (i := 9) (q := 10) (v := ?lv57) rfl rfl (by kernel_rfl) (by kernel_rfl) (by kernel_rfl) (by kernel_rfl) (by kernel_rfl) (fun _ _ _ h => h) (fun _ _ _ _ => True.intro) (untilL_set (by decide) (by decide)) (Or.inl ⟨by rfl, ?lhy57⟩) ⟨fun _ => Z6.1, fun _ => Z6.2⟩ ?lrest57; case lhy57 => (intro w hSw; (try dsimp only at hSw); go_simp; (try with_reducible rfl)); (try simp only [Act.put, List.getElem_toArray, List.getElem_cons_zero, List.getElem_cons_succ, List.setIfInBounds_toArray, List.set_cons_zero, List.set_cons_succ]))
              refine wpAnyL_ready (rs := [10]) (by kernel_rfl) (by simp) ?_; refine AllReadyL.cons (i := 10) rfl (fun K hK => ?_) AllReadyL.nil
              go_simp
              refine hK.out _ _ ⟨(fun _ => Z6.1), (fun _ => Z6.2)⟩ (fun hHeld => ?_); clear hK K; (try simp only [Act.put, List.getElem_toArray, List.getElem_cons_zero, List.getElem_cons_succ, List.setIfInBounds_toArray, List.set_cons_zero, List.set_cons_succ])
              refine wpAnyL_ready (rs := [11]) (by kernel_rfl) (by simp) ?_; refine AllReadyL.cons (i := 11) rfl (fun K hK => ?_) AllReadyL.nil
              go_simp
              have B6a := hb6'.al (.cells #[Value.int IntKind.i64 lx] 2)
              have Z7 := HZ4.out _ B6a
              refine hK.out _ _ ⟨(fun _ => Z7.1), (fun _ => Z7.2)⟩ (fun hHeld => ?_); clear hK K; (try simp only [Act.put, List.getElem_toArray, List.getElem_cons_zero, List.getElem_cons_succ, List.setIfInBounds_toArray, List.set_cons_zero, List.set_cons_succ])
              refine wpAnyL_ready (rs := [12]) (by kernel_rfl) (by simp) ?_; refine AllReadyL.cons (i := 12) rfl (fun K hK => ?_) AllReadyL.nil
              refine step_push_i rfl _ _ _ rfl Try.underlying28 infoI wr0.heap.size _ L2 lx w6'.heap.size _ rfl rfl ?_ (by exact (H4.out.below B6a).b.o2) hkl2 (by exact Nat.le_trans hs4 B6a.size) ?_
              · exact World.cell?_alloc_at _ _ _ _ rfl
              intro v8 w8 ho8 hg8 hat8 hs8
              have C8 := (H4.out.below B6a).grow2 ho8 hg8 (hat_ge hat8 (Nat.le_refl _)) (Nat.lt_of_lt_of_le hlu4 B6a.size)
              rcases ho8.shape with ⟨-, hnil⟩ | ⟨g8, p8, rfl, -⟩
              · exact absurd hnil (by simp)
              have hln8 : (L2 ++ [lx]).length = k + 1 := by rw [List.length_append, HLEN.out.2]; rfl
              rw [hln8] at C8 ⊢
              have c28 := C8.1.c2
              have f28 := C8.1.fr 2 (by decide)
              have nbx : (Value.slice p2 k c2').ownBlock ≠ some bx := fun e => by have := HV2.out bx e; omega
              have nwz : (Value.slice p2 k c2').ownBlock ≠ some w.heap.size := fun e => by have := HQ12.out.2 _ e; omega
              have Z8 := And.intro (grownB hg8 Z7.2.1 nbx) (And.intro (grownB hg8 Z7.2.2.1 nbx) (And.intro (grownB hg8 Z7.2.2.2.1 nwz) (grownB hg8 Z7.2.2.2.2 nwz)))
              have U8 : UpdS (fun i => i = bo) w7 w8 := (HU4.out.trans (UpdS.of_below B6a) (fun _ _ d => d)).trans (UpdS.of_grown hg8 (D := fun b => (Value.slice p2 k c2').ownBlock = some b) (fun b hb => hb)) (fun i hi d => by have := HQ12.out.2 i d; omega)
              have hq8 : ∀ b, (Value.slice (some ⟨g8, 0, none⟩) (k + 1) p8).ownBlock = some b → w7.heap.size ≤ b := fun b hb => by
                rcases hat8 with e | e
                · exact HQ12.out.2 b (show (Value.slice p2 k c2').ownBlock = some b from e.symm.trans hb)
                · have hb' : some g8 = some b := hb
                  have e' : some g8 = some (w6'.alloc _).heap.size := e
                  rw [World.size_alloc] at e'
                  cases hb'
                  cases e'
                  have := HU4.out.size
                  have := hb6'.size
                  omega
              have U9 : UpdS (fun i => i = bo) w7 (w8.setCell ⟨bo, 2, none⟩ (.slice (some ⟨g8, 0, none⟩) (k + 1) p8)) := U8.trans (UpdS.of_set (D := fun i => i = bo) _ rfl) (fun _ _ d => d)
              have HC8 := Lib.hid (And.intro C8.2 (And.intro U9 (And.intro HC3.out.2.2 hq8)))
              clear C8 U8 U9 hq8 ho8 hg8 hat8 hs8 hln8 hrun2 Z5 Z6 Z7
              
              refine hK.out _ _ ⟨(fun h => Bool.noConfusion (show true = false from h)), (fun _ => Z8)⟩ (fun hHeld => ?_); clear hK K; (try simp only [Act.put, List.getElem_toArray, List.getElem_cons_zero, List.getElem_cons_succ, List.setIfInBounds_toArray, List.set_cons_zero, List.set_cons_succ])
              
              (refine wpAnyL_take (S0 := (fun _ => True)) (i := 13) (q := 14) (v := ?lv58) rfl rfl (by kernel_rfl) (by kernel_rfl) (by kernel_rfl) (by kernel_rfl) (by kernel_rfl) (fun _ _ _ h => h) (fun _ _ _ _ => True.intro) (untilL_set (by decide) (by decide)) (Or.inl ⟨by rfl, ?lhy58⟩) ⟨(fun h => Bool.noConfusion (show true = false from h)), fun _ => Z8⟩ ?lrest58; case lhy58 => (intro w hSw; (try dsimp only at hSw); go_simp; (try with_reducible rfl)); (try simp only [Act.put, List.getElem_toArray, List.getElem_cons_zero, List.getElem_cons_succ, List.setIfInBounds_toArray, List.set_cons_zero, List.set_cons_succ])); (refine wpAnyL_take (S0 := (fun _ => True)) (i := 14) (q := 15) (v := ?lv59) rfl rfl (by kernel_rfl) (by kernel_rfl) (by kernel_rfl) (by kernel_rfl) (by kernel_rfl) (fun _ _ _ h => h) (fun _ _ _ _ => True.intro) (untilL_set (by decide) (by decide)) (Or.inl ⟨by rfl, ?lhy59⟩) ⟨(fun h => Bool.noConfusion (show true = false from h)), fun _ => Z8⟩ ?lrest59; case lhy59 => (intro w hSw; (try dsimp only at hSw); go_simp; (try with_reducible rfl)); (try simp only [Act.put, List.getElem_toArray, List.getElem_cons_zero, List.getElem_cons_succ, List.setIfInBounds_toArray, List.set_cons_zero, List.set_cons_succ]))
              refine wpAnyL_ready (rs := [15]) (by kernel_rfl) (by simp) ?_; refine AllReadyL.cons (i := 15) rfl (fun K hK => ?_) AllReadyL.nil
              go_simp
              refine hK.out _ _ ⟨(fun h => Bool.noConfusion (show true = false from h)), (fun h => Bool.noConfusion (show true = false from h))⟩ (fun hHeld => ?_); clear hK K; (try simp only [Act.put, List.getElem_toArray, List.getElem_cons_zero, List.getElem_cons_succ, List.setIfInBounds_toArray, List.set_cons_zero, List.set_cons_succ])
              refine wpAnyL_done (by kernel_rfl) ?_ _; refine NoPanic.normal ?_
              go_wp2_with fail
              go_roundw
              case rel => exact ⟨k + 1, by omega, by go_num, _, _, by rw [HX1.out, HX2.out]; exact HC8.out.1, HC8.out.2.1, HC8.out.2.2.1, HC8.out.2.2.2⟩
              case measure => simp [intOf]; omega
            · obtain rfl : n = k := by omega
              rw [List.take_of_length_le (by rw [HF.out.1, Hn.out]; omega), List.take_of_length_le (by rw [HF.out.2, Hn.out]; omega)] at hM
              have hlu : bu < wr.heap.size := World.block_lt_of_cell? wr _ (hM.b.us 0 (by omega)).1
              have hRF : RdFar (fun j => j = bo ∨ j = bu) n wr (R 0) v1 v2 F := hM.far (by omega) (by rw [HF.out.1, Hn.out]) (by rw [HF.out.2, Hn.out]) (ordCs_len _ _ _) (by rw [HFC.out, Hn.out]) (fun i hi => by
                have e : (ordCs h X n).getD i [] = ordRow h X i X.length := by unfold ordCs; simp [List.getD, hi]
                rw [e, ordRow_len, Hn.out]) (fun k hk => hk)
              have hDlt : ∀ j, (j = bo ∨ j = bu) → j < wr.heap.size := fun j hj => by
                rcases hj with rfl | rfl
                · exact hM.b.lbo
                · exact hlu
              have hA : SrchI wr0.heap.size bo bu n (fun j => j = bo ∨ j = bu) wr (R 0) v1 v2 wr (.slice none 0 0) [] (.slice none 0 0) none := by
                obtain ⟨-, s3, s4, s5, s6⟩ := HR3H.out
                have m3 := hM.b.cr 3 (by decide) (by decide) (by decide)
                have m4 := hM.b.cr 4 (by decide) (by decide) (by decide)
                have m5 := hM.b.cr 5 (by decide) (by decide) (by decide)
                have m6 := hM.b.cr 6 (by decide) (by decide) (by decide)
                rw [s3] at m3; rw [s4] at m4; rw [s5] at m5; rw [s6] at m6
                exact ⟨⟨hM.b.cr 0 (by decide) (by decide) (by decide), hM.b.c1, hM.b.c2, m3, m4, m5, m6, hM.b.fr 3 (by decide), hM.b.fr 5 (by decide), hM.b.fr 6 (by decide), fun j hj => by have := hM.b.us j hj; simpa [memO] using this, OwnI.nil _ rfl, OwnI.nil _ rfl, fun j hj => by simp [Value.ownBlock] at hj, UpdS.refl _ _, Or.inl rfl, Or.inr rfl, hM.b.ne, hM.b.lbo, hlu, hM.b.bel.size, hDlt⟩, fun _ => rfl, fun p hp => by cases hp⟩
              have hbl := hM.b.bel
              have hbo := hM.b.hbo
              have hbu := hM.b.hbu
              have HA := Lib.hid hA
              have HRF := Lib.hid hRF
              have HBE := Lib.hid (HBW.out.tr hbl)
              have hs1w := HBW.out.size
              have HWN := HW
              rw [Hn.out] at HWN
              have HBN := HB
              rw [Hn.out] at HBN
              clear hM hA hRF hbl hU hq1 hq2
              go_wp2_with fail
              refine (c_impl_step _ _ _ _ _ _ _ _ _ F HRF.out HBN.out n [] 0 _ _ none _ HA.out (PathO.nil n) (by simp) (by simp) NnO.none).mono ?_; rintro e w4 ⟨rfl, vo4, vb4, h4⟩
              rw [HWN.out] at h4
              obtain ⟨ad, m4, cap4, rfl⟩ := h4.bs q rfl
              have c5 := h4.m.c5
              have c6 : w4.cell? ⟨bo, 6, none⟩ = some (.int .i64 q.2) := h4.m.c6
              obtain ⟨hq0, hq1⟩ := HQB.out
              have hfin := HBB.out.tr (updS_below2 HBE.out h4.m.up HBE.out.size (fun j hj => by rcases hj with rfl | rfl <;> omega))
              have hob := (h4.m.ob.base HBE.out.size).base HBB.out.size
              have HOB := Lib.hid (And.intro hob hfin)
              have HRS : Hid (soL h X = q.2 + bk) := by unfold Hid; rw [HY.out.2.1, HQ.out, Hn.out, Hbk.out]; rfl
              have HRX : Hid (soX h X = q.1) := by unfold Hid; rw [HY.out.1, HQ.out]; rfl
              generalize q.2 = Q2 at *
              clear h4 hob hfin
              go_wp2_with fail
              go_quiet (fail)
              go_wp2
              go_ret3
              exact ⟨_, by rw [HRS.out, HY.out.2.2]; rfl, by rw [HRX.out]; exact HOB.out.1.below ((Below.refl _ _).drN _), HOB.out.2.tr ((Below.refl _ _).drN _)⟩
end Go.Proofs.Ytgcmnpimkfmccaa
end
