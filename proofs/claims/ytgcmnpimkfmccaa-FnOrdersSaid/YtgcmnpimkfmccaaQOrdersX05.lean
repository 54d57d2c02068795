/- The law OrdersX: what it rests on, part 5 of 48. -/
import Derived.ArgAppend
import Derived.Deep.AppendLies
import Derived.Test.YtgcmnpimkfmccaaQOrdersX02
import Derived.Test.YtgcmnpimkfmccaaQOrdersX04
namespace Go.RowKit
open Go.ChangeShapes Go.WideShapes Go.ChangeAt
set_option linter.unusedVariables false
theorem push_g0 {P : Program} {ops : Array Oper} {rest : List Oper} {o : Oper} {a : Act} {Q : Exit → Act → World → Prop} {ES e : TypeId} (hgd : o.guard = none) (s x : Operand) (t : TypeId)
    (ho : o.op = .call { callee := .builtin .append, args := #[s, x], argTypes := #[t, t] })
    (ht : P.underlying t = some (.slice ES)) (hinfo : (P.info? ES).map (fun i => (i.zero, i.size, i.bytes)) = some (some (.slice none 0 0), 1, 24))
    (g0 : Nat) (u : Value) (ys : List Int) (w0 : World) (lo : Nat) (hs : a.eval s = .slice (some ⟨g0, 0, none⟩) 0 0) (hx : a.eval x = .slice (some ⟨w0.heap.size, 0, none⟩) 1 1)
    (hu : OwnI e lo w0 u ys) (hone : u.oneCell' = true) (hB : lo ≤ w0.heap.size)
    (h : ∀ v' w', OwnG ES e lo w'.heap.size w' v' [ys] → Below w0.heap.size w0 w' → wpList P ops Q rest (a.put o.dst v') w') :
    wpList P ops Q (o :: rest) a (w0.alloc (.cells #[u] ES)) := by
  obtain ⟨i0, hi0, hz0, hz1, hz2⟩ := info_parts hinfo
  refine wpList_append_grows (w0.alloc (.cells #[u] ES)) hgd s x t ho ES i0 (.slice none 0 0) 1 24 ht hi0 hz0 hz1 hz2 rfl (by decide) (some ⟨g0, 0, none⟩) 0 0 [] hs (fun e => by cases e) rfl (fun b _ j u hu => by simp at hu) ⟨w0.heap.size, 0, none⟩ 1 1 [u] hx rfl ?_ ?_ (by omega) (by unfold maxLen; omega) (by omega) ?_
  · intro j v hj
    match j, hj with
    | 0, hj =>
      simp only [List.getElem?_cons_zero, Option.some.injEq] at hj
      subst hj
      rw [Go.WideShapes.add_plain]
      exact World.cell?_alloc_at _ _ _ _ rfl
  · intro q hq; simp at hq; subst hq; exact hone
  · intro v' w' ho' hg
    have hB1 : Below w0.heap.size w0 (w0.alloc (.cells #[u] ES)) := (Below.refl _ _).al _
    have hB2 : Below w0.heap.size w0 w' := hB1.grown hg hB1.size (fun k hk => by cases hk)
    have hu' := hu.below hB2
    have hsz : (w0.alloc (.cells #[u] ES)).heap.size = w0.heap.size + 1 := World.size_alloc _ _
    refine h v' w' ⟨[u], rfl, owns_base ho' (by omega), fun k hk => (World.ownsRow.lt ho' k hk).2, fun i hi => ?_, fun i j hi hj hne => ?_, fun i b hi hb hv => ?_⟩ hB2
    · simp only [List.length_cons, List.length_nil] at hi
      have : i = 0 := by omega
      subst this
      exact ⟨hu', fun k hk => (World.ownsRow.lt hu' k hk).2⟩
    · simp only [List.length_cons, List.length_nil] at hi hj
      omega
    · simp only [List.length_cons, List.length_nil] at hi
      have : i = 0 := by omega
      subst this
      have h1 := (World.ownsRow.lt hu b hb).2
      have h2 := (World.ownsRow.lt ho' b hv).1
      omega
theorem OwnG.lt {ES e : TypeId} {lo hi : Nat} {w : World} {v : Value} {X : List (List Int)} (h : OwnG ES e lo hi w v X) : ∀ k, v.ownBlock = some k → lo ≤ k ∧ k < w.heap.size := by
  obtain ⟨vs, k1, k2, _⟩ := h
  exact World.ownsRow.lt k2
theorem OwnI.one {E : TypeId} {B : Nat} {w : World} {v : Value} {xs : List Int} (h : OwnI E B w v xs) : v.oneCell' = true := by
  rcases h.2 with ⟨rfl, _⟩ | ⟨g, cap, cur, rfl, _⟩ <;> rfl
theorem step_push_g {P : Program} {ops : Array Oper} {o : Oper} {a : Act} {K : Act → World → Prop} {Q : Exit → Act → World → Prop} {Ep : Prop} {ES e : TypeId} {lo hi : Nat} (hgd : o.guard = none) (s x : Operand) (t : TypeId)
    (ho : o.op = .call { callee := .builtin .append, args := #[s, x], argTypes := #[t, t] })
    (ht : P.underlying t = some (.slice ES)) (hinfo : (P.info? ES).map (fun i => (i.zero, i.size, i.bytes)) = some (some (.slice none 0 0), 1, 24))
    (v : Value) (X : List (List Int)) (u : Value) (ys : List Int) (w0 : World) (hs : a.eval s = v) (hx : a.eval x = .slice (some ⟨w0.heap.size, 0, none⟩) 1 1)
    (hown : OwnG ES e lo hi w0 v X) (hu : OwnI e lo w0 u ys) (hfar : ∀ b, u.ownBlock = some b → hi ≤ b) (hone : u.oneCell' = true) (hlen : X.length < 1000000000) (hB : lo ≤ w0.heap.size)
    (h : ∀ v' w', OwnG ES e lo w'.heap.size w' v' (X ++ [ys]) → w0.grownBy w' v.ownBlock → (v'.ownBlock = v.ownBlock ∨ v'.ownBlock = some (w0.heap.size + 1)) → w0.heap.size < w'.heap.size → K (a.put o.dst v') w') :
    if Region.wanted o (yielded ops a.tmps) = true then Oper.wp P o a (w0.alloc (.cells #[u] ES)) K Q else Ep := by
  obtain ⟨i0, hi0, hz0, hz1, hz2⟩ := info_parts hinfo
  obtain ⟨vs, k1, k2, k3, k4, k5, k6⟩ := hown
  refine step_append_lies (w := w0.alloc (.cells #[u] ES)) hgd s x t ho lo ES i0 (.slice none 0 0) 1 24 ht hi0 hz0 hz1 hz2 rfl (by decide) v X.length vs hs (World.ownsRow.alloc k2 _) ⟨w0.heap.size, 0, none⟩ 1 1 [u] hx rfl (cell_one_new _ _ _) ?_ (by decide) ?_ ?_ ?_ _ rfl ?_
  · intro q hq; simp at hq; subst hq; exact hone
  · unfold maxLen; omega
  · omega
  · simp; omega
  · intro g' cap' w' ho' hg hat hglt
    obtain ⟨v', hv'e⟩ : ∃ v', v' = Value.slice (some ⟨g', 0, none⟩) (X.length + 1) cap' := ⟨_, rfl⟩
    rw [← hv'e] at ho' ⊢
    have hgg := grownBy_trans (World.grownBy_alloc w0 (.cells #[u] ES) v.ownBlock) hg
    have hat' : v'.ownBlock = v.ownBlock ∨ v'.ownBlock = some (w0.heap.size + 1) := by
      rw [hv'e]
      rcases hat with h1 | h1
      · left; rw [h1]; rfl
      · right; rw [h1]; simp [Value.ownBlock]
    have hsz : w0.heap.size < w'.heap.size := by have := hg.size; simp at this; omega
    refine h v' w' ?_ hgg hat' hsz
    have hget : ∀ j, j < X.length + 1 → (vs ++ [u]).getD j undef = if j = X.length then u else vs.getD j undef := fun j hj => by
      by_cases hjx : j = X.length
      · subst hjx; rw [if_pos rfl, ← k1]; simp [List.getD]
      · rw [if_neg hjx, List.getD_eq_getElem?_getD, List.getElem?_append_left (by omega), List.getD_eq_getElem?_getD]
    have hX : ∀ j, j < X.length + 1 → (X ++ [ys]).getD j [] = if j = X.length then ys else X.getD j [] := fun j hj => by
      by_cases hjx : j = X.length
      · subst hjx; rw [if_pos rfl]; simp [List.getD]
      · rw [if_neg hjx, List.getD_eq_getElem?_getD, List.getElem?_append_left (by omega), List.getD_eq_getElem?_getD]
    have hv' : ∀ b, v'.ownBlock = some b → v.ownBlock = some b ∨ b = w0.heap.size + 1 := fun b hb => by
      rcases hat' with h1 | h1
      · exact Or.inl (h1 ▸ hb)
      · rw [h1] at hb; cases hb; exact Or.inr rfl
    have hvu : ∀ b, u.ownBlock = some b → v.ownBlock ≠ some b := fun b hb hv => by
      have h1 := hfar b hb
      have h2 := k3 b hv
      omega
    refine ⟨vs ++ [u], by simp [k1], by rw [List.length_append]; exact ho', fun k hk => (World.ownsRow.lt ho' k hk).2, fun j hj => ?_, fun j l hj hl hne b hb => ?_, fun j b hj hb => ?_⟩
    · have hj' : j < X.length + 1 := by simpa using hj
      rw [hget j hj', hX j hj']
      by_cases hjx : j = X.length
      · rw [if_pos hjx, if_pos hjx]
        exact ⟨owns_block hu fun k hk => hgg.block k (World.ownsRow.lt hu k hk).2 (fun hb => hvu k hk hb.symm), fun k hk => Nat.lt_of_lt_of_le (World.ownsRow.lt hu k hk).2 hgg.size⟩
      · rw [if_neg hjx, if_neg hjx]
        have hr := k4 j (by omega)
        exact ⟨owns_block hr.1 fun k hk => hgg.block k (World.ownsRow.lt hr.1 k hk).2 (fun hb => k6 j k (by omega) hk hb.symm), fun k hk => Nat.lt_of_lt_of_le (World.ownsRow.lt hr.1 k hk).2 hgg.size⟩
    · have hj' : j < X.length + 1 := by simpa using hj
      have hl' : l < X.length + 1 := by simpa using hl
      rw [hget j hj'] at hb
      rw [hget l hl']
      by_cases hjx : j = X.length
      · rw [if_pos hjx] at hb
        rw [if_neg (by omega)]
        intro hl2
        have h1 := (k4 l (by omega)).2 b hl2
        have h2 := hfar b hb
        omega
      · rw [if_neg hjx] at hb
        by_cases hlx : l = X.length
        · rw [if_pos hlx]
          intro hl2
          have h1 := (k4 j (by omega)).2 b hb
          have h2 := hfar b hl2
          omega
        · rw [if_neg hlx]; exact k5 j l (by omega) (by omega) hne b hb
    · have hj' : j < X.length + 1 := by simpa using hj
      rw [hget j hj'] at hb
      intro hv
      by_cases hjx : j = X.length
      · rw [if_pos hjx] at hb
        have h2 := (World.ownsRow.lt hu b hb).2
        rcases hv' b hv with h1 | h1
        · exact hvu b hb h1
        · omega
      · rw [if_neg hjx] at hb
        have h2 := (World.ownsRow.lt (k4 j (by omega)).1 b hb).2
        rcases hv' b hv with h1 | h1
        · exact k6 j b (by omega) hb h1
        · omega
end Go.RowKit
