/- MemGS, LawGS: laid one behind the other. -/
import Derived.Test.YtjokodlappeapaaDoorMemR
import Derived.Test.YtjokodlappeapaaDoorLawS
import Derived.Test.YtjokodlappeapaaDoorKeep
section
set_option linter.unusedVariables false
namespace Go.RowKit
variable {α : Type} {row : α → List Value}
def OwnGS (row : α → List Value) (ES e : TypeId) (lo hi : Nat) (w : World) (v : Value) (X : List (List α)) : Prop :=
  ∃ vs : List Value, vs.length = X.length ∧ w.ownsRow lo ES 1 v X.length vs ∧ (∀ k, v.ownBlock = some k → k < hi) ∧
    (∀ i, i < X.length → OwnRow e 1 row lo hi w (vs.getD i undef) (X.getD i [])) ∧
    (∀ i j, i < X.length → j < X.length → i ≠ j → ∀ b, (vs.getD i undef).ownBlock = some b → (vs.getD j undef).ownBlock ≠ some b) ∧
    ∀ i b, i < X.length → (vs.getD i undef).ownBlock = some b → v.ownBlock ≠ some b
section
variable {ES e : TypeId} {lo hi : Nat} {w : World} {v : Value} {X : List (List α)}
theorem OwnGS.block {w' : World} (h : OwnGS row ES e lo hi w v X) (hb : ∀ k, lo ≤ k → k < hi → k < w.heap.size → w'.heap[k]? = w.heap[k]?) : OwnGS row ES e lo hi w' v X := by
  obtain ⟨vs, h1, h2, h3, h4, h5⟩ := h
  refine ⟨vs, h1, owns_block h2 fun k hk => hb k (h2.lt k hk).1 (h3 k hk) (h2.lt k hk).2, h3, fun i hi' => ?_, h5⟩
  have := h4 i hi'
  refine ⟨owns_block this.1 fun k hk => ?_, this.2⟩; exact hb k (World.ownsRow.lt this.1 k hk).1 (this.2 k hk) (World.ownsRow.lt this.1 k hk).2
theorem OwnGS.below {w' : World} (h : OwnGS row ES e lo hi w v X) (hb : Below w.heap.size w w') : OwnGS row ES e lo hi w' v X := h.block fun k _ _ hk => hb.block k hk
theorem OwnGS.al (h : OwnGS row ES e lo hi w v X) (o : Obj) : OwnGS row ES e lo hi (w.alloc o) v X := h.below ((Below.refl _ _).al o)
theorem OwnGS.upd {lo' hi' : Nat} {w' : World} (h : OwnGS row ES e lo hi w v X) (hb : Upd lo' hi' w w') (hd : hi ≤ lo' ∨ hi' ≤ lo) : OwnGS row ES e lo hi w' v X := h.block fun k h1 h2 hk => hb.block k (by omega) hk
theorem OwnGS.grown {r : Option Nat} {w' : World} (h : OwnGS row ES e lo hi w v X) (hg : w.grownBy w' r) (hd : ∀ k, r = some k → k < lo ∨ hi ≤ k) : OwnGS row ES e lo hi w' v X :=
  h.block fun k h1 h2 hk => hg.block k hk (fun e => by have := hd k e.symm; omega)
theorem OwnGS.same {w' : World} (h : OwnGS row ES e lo hi w v X) (hs : Same lo hi w w') : OwnGS row ES e lo hi w' v X := h.block fun k h1 h2 _ => hs.2 k h1 h2
theorem OwnGS.wide {lo' hi' : Nat} (h : OwnGS row ES e lo hi w v X) (h1 : lo' ≤ lo) (h2 : hi ≤ hi') : OwnGS row ES e lo' hi' w v X := by
  obtain ⟨vs, k1, k2, k3, k4, k5⟩ := h
  exact ⟨vs, k1, owns_base k2 h1, fun k hk => Nat.lt_of_lt_of_le (k3 k hk) h2, fun i hi' => (k4 i hi').wide h1 h2, k5⟩
theorem OwnGS.tight (h : OwnGS row ES e lo hi w v X) : OwnGS row ES e lo w.heap.size w v X := by
  obtain ⟨vs, k1, k2, k3, k4, k5⟩ := h
  exact ⟨vs, k1, k2, fun k hk => (k2.lt k hk).2, fun i hi' => ⟨(k4 i hi').1, fun k hk => (World.ownsRow.lt (k4 i hi').1 k hk).2⟩, k5⟩
theorem OwnGS.made {g : Nat} {w : World} (hg : g = w.heap.size) (hB : lo ≤ w.heap.size) : OwnGS row ES e lo (w.heap.size + 1) (w.alloc (.cells #[] ES)) (.slice (some ⟨g, 0, none⟩) 0 0) [] := by
  subst hg
  refine ⟨[], rfl, World.ownsRow_made w #[] 0 hB (by decide) rfl, fun k hk => ?_, fun i hi => by simp at hi, fun i j hi => by simp at hi, fun i b hi => by simp at hi⟩
  simp only [Value.ownBlock, Option.some.injEq] at hk
  omega
/-- the header's own block -/
theorem OwnGS.shape (h : OwnGS row ES e lo hi w v X) (hne : X ≠ []) : ∃ g n cap, v = .slice (some ⟨g, 0, none⟩) n cap ∧ n = X.length ∧ n ≤ cap ∧ cap ≤ 9223372036854775807 ∧ lo ≤ g ∧ g < hi ∧ g < w.heap.size := by
  obtain ⟨vs, k1, k2, k3, k4, k5⟩ := h
  have hlt := k2.lt
  rcases k2.2 with ⟨_, hn⟩ | ⟨g, cap, cur, rfl, hg, hh, hn, hm, _⟩
  · exact absurd (List.eq_nil_of_length_eq_zero hn) hne
  · exact ⟨g, _, cap, rfl, rfl, hn, by unfold maxLen at hm; omega, hg, k3 g rfl, (hlt g rfl).2⟩
/-- a row, and the way back behind a change of it -/
theorem OwnGS.get {g n cap : Nat} (h : OwnGS row ES e lo hi w (.slice (some ⟨g, 0, none⟩) n cap) X) (i : Nat) (hi' : i < X.length) :
    ∃ u, w.cell? ⟨g, i, none⟩ = some u ∧ w.frozen? ⟨g, i, none⟩ = false ∧ OwnRow e 1 row lo hi w u (X.getD i []) ∧ u.ownBlock ≠ some g ∧
      ∀ w1 v1 ys, w1.ownsRow lo e 1 v1 ys.length (ys.flatMap row) → w.grownBy w1 u.ownBlock → (v1.ownBlock = u.ownBlock ∨ ∃ b, v1.ownBlock = some b ∧ w.heap.size ≤ b) → lo ≤ g →
        OwnGS row ES e lo w1.heap.size (w1.setCell ⟨g, i, none⟩ v1) (.slice (some ⟨g, 0, none⟩) n cap) (X.set i ys) := by
  obtain ⟨vs, k1, k2, k3, k4, k5, k6⟩ := h
  obtain rfl : n = X.length := by
    rcases k2.2 with ⟨h0, _⟩ | ⟨g', cap', cur, he, _⟩
    · cases h0
    · cases he; rfl
  have hcell := World.ownsRow.cellAt k2 i (show i < X.length * 1 by omega)
  have hvi : i < vs.length := by omega
  have hge : vs.getD i undef = vs[i] := by simp [List.getD, hvi]
  refine ⟨vs.getD i undef, by rw [hcell, List.getElem?_eq_getElem hvi, hge], World.ownsRow.frozenAt k2 i, k4 i hi', fun hb => k6 i g hi' hb rfl, fun w1 v1 ys ho hg hat hlo => ?_⟩
  have hown1 : w1.ownsRow lo ES 1 (.slice (some ⟨g, 0, none⟩) X.length cap) X.length vs := owns_block k2 fun k hk => by
    simp only [Value.ownBlock, Option.some.injEq] at hk
    subst hk
    exact hg.block _ (k2.lt _ rfl).2 (fun hb => k6 i _ hi' hb.symm rfl)
  have hst := World.ownsRow.stored hown1 i v1
  have hgw := (k2.lt g rfl).2
  have hset : ∀ j, j < X.length → (vs.set i v1).getD j undef = if j = i then v1 else vs.getD j undef := fun j hj => by
    by_cases hji : j = i
    · subst hji; rw [if_pos rfl]; simp [List.getD, hvi]
    · rw [if_neg hji]; simp [List.getD, Ne.symm hji]
  have hX : ∀ j, (X.set i ys).getD j [] = if j = i then ys else X.getD j [] := fun j => by
    by_cases hji : j = i
    · subst hji; rw [if_pos rfl]; simp [List.getD, hi']
    · rw [if_neg hji]; simp [List.getD, Ne.symm hji]
  have hv1g : v1.ownBlock ≠ some g := fun hb => by
    rcases hat with hat | ⟨b, hb', hle⟩
    · exact k6 i g hi' (hat ▸ hb) rfl
    · rw [hb'] at hb; cases hb; omega
  refine ⟨vs.set i v1, by simp [k1], by simp only [List.length_set]; exact hst.1, fun k hk => ?_, fun j hj => ?_, fun j l hj hl hne b hb => ?_, fun j b hj hb => ?_⟩
  · have := (World.ownsRow.lt hown1 k hk).2; exact this
  · rw [List.length_set] at hj
    rw [hset j hj, hX j]
    by_cases hji : j = i
    · rw [if_pos hji, if_pos hji]
      refine ⟨owns_block ho fun k hk => heap_setCell_other w1 _ k v1 (fun e => hv1g (by rw [hk, e])), fun k hk => ?_⟩
      exact (World.ownsRow.lt ho k hk).2
    · rw [if_neg hji, if_neg hji]
      have hr := k4 j hj
      refine ⟨owns_block hr.1 fun k hk => ?_, fun k hk => Nat.lt_of_lt_of_le (World.ownsRow.lt hr.1 k hk).2 hg.size⟩
      rw [heap_setCell_other w1 _ k v1 (fun e => k6 j k hj hk (by rw [e]; rfl))]
      exact hg.block k (World.ownsRow.lt hr.1 k hk).2 (fun hb => k5 j i hj hi' hji k hk hb.symm)
  · rw [List.length_set] at hj hl
    rw [hset j hj] at hb
    rw [hset l hl]
    by_cases hji : j = i
    · rw [if_pos hji] at hb
      rw [if_neg (fun e => hne (hji.trans e.symm))]
      intro hl2
      rcases hat with hat | ⟨b', hb', hle⟩
      · rw [hat] at hb
        exact k5 i l hi' hl (fun e => hne (hji.trans e)) b hb hl2
      · rw [hb'] at hb; cases hb
        have := (World.ownsRow.lt (k4 l hl).1 b hl2).2
        omega
    · rw [if_neg hji] at hb
      by_cases hli : l = i
      · rw [if_pos hli]
        intro hl2
        rcases hat with hat | ⟨b', hb', hle⟩
        · rw [hat] at hl2
          exact k5 j i hj hi' hji b hb hl2
        · rw [hb'] at hl2; cases hl2
          have := (World.ownsRow.lt (k4 j hj).1 b hb).2
          omega
      · rw [if_neg hli]; exact k5 j l hj hl hne b hb
  · rw [List.length_set] at hj
    rw [hset j hj] at hb
    by_cases hji : j = i
    · rw [if_pos hji] at hb
      intro hg2
      simp only [Value.ownBlock, Option.some.injEq] at hg2
      exact hv1g (by rw [hb, hg2])
    · rw [if_neg hji] at hb; exact k6 j b hj hb
/-- a new row is appended -/
theorem push_gs {P : Program} {ops : Array Oper} {rest : List Oper} {o : Oper} {a : Act} {Q : Exit → Act → World → Prop} (hgd : o.guard = none) (s x : Operand) (t : TypeId)
    (ho : o.op = .call { callee := .builtin .append, args := #[s, x], argTypes := #[t, t] })
    (ht : P.underlying t = some (.slice ES)) (hinfo : (P.info? ES).map (fun i => (i.zero, i.size, i.bytes)) = some (some (.slice none 0 0), 1, 24))
    (v : Value) (X : List (List α)) (u : Value) (ys : List α) (w0 : World) (hs : a.eval s = v) (hx : a.eval x = .slice (some ⟨w0.heap.size, 0, none⟩) 1 1)
    (hown : OwnGS row ES e lo hi w0 v X) (hu : w0.ownsRow lo e 1 u ys.length (ys.flatMap row)) (hfar : ∀ b, u.ownBlock = some b → hi ≤ b) (hone : u.oneCell' = true) (hlen : X.length < 1000000000) (hB : lo ≤ w0.heap.size)
    (h : ∀ v' w', OwnGS row ES e lo w'.heap.size w' v' (X ++ [ys]) → w0.grownBy w' v.ownBlock → (v'.ownBlock = v.ownBlock ∨ v'.ownBlock = some (w0.heap.size + 1)) → w0.heap.size < w'.heap.size → wpList P ops Q rest (a.put o.dst v') w') :
    wpList P ops Q (o :: rest) a (w0.alloc (.cells #[u] ES)) := by
  obtain ⟨i0, hi0, hz0, hz1, hz2⟩ := info_parts hinfo
  obtain ⟨vs, k1, k2, k3, k4, k5, k6⟩ := hown
  refine wpList_append_own_at (w := _) hgd s x t ho lo ES i0 (.slice none 0 0) 1 24 ht hi0 hz0 hz1 hz2 rfl (by decide) v X.length vs hs (World.ownsRow.alloc k2 _) ⟨w0.heap.size, 0, none⟩ 1 1 [u] hx rfl (cell_one_new _ _ _) ?_ ?_ ?_ ?_ ?_
  · intro q hq; simp at hq; subst hq; exact hone
  · unfold maxLen; omega
  · omega
  · simp; omega
  · intro v' w' ho' hg _ hat
    have hgg := grownBy_trans (World.grownBy_alloc w0 (.cells #[u] ES) v.ownBlock) hg
    have hat' : v'.ownBlock = v.ownBlock ∨ v'.ownBlock = some (w0.heap.size + 1) := by simpa using hat
    have hsz : w0.heap.size < w'.heap.size := by have := hg.size; simp at this; omega
    refine h v' w' ?_ hgg hat' hsz
    have hget : ∀ j, j < X.length + 1 → (vs ++ [u]).getD j undef = if j = X.length then u else vs.getD j undef := fun j hj => by
      by_cases hjx : j = X.length
      · subst hjx; rw [if_pos rfl, ← k1]; simp [List.getD]
      · rw [if_neg hjx, List.getD_eq_getElem?_getD, List.getElem?_append_left (by omega), List.getD_eq_getElem?_getD]
    have hX : ∀ j, j < X.length + 1 → (X ++ [ys]).getD j [] = if j = X.length then ys else X.getD j [] := fun j hj => by
      by_cases hjx : j = X.length
      · subst hjx; rw [if_pos rfl]; simp [List.getD]
      · rw [if_neg hjx, List.getD_eq_getElem?_getD, List.getElem?_append_left (by omega), List.getD_eq_getElem?_getD]
    have hv' : ∀ b, v'.ownBlock = some b → v.ownBlock = some b ∨ b = w0.heap.size + 1 := fun b hb => by
      rcases hat' with h1 | h1
      · exact Or.inl (h1 ▸ hb)
      · rw [h1] at hb; cases hb; exact Or.inr rfl
    have hvu : ∀ b, u.ownBlock = some b → v.ownBlock ≠ some b := fun b hb hv => by
      have h1 := hfar b hb
      have h2 := k3 b hv
      omega
    refine ⟨vs ++ [u], by simp [k1], by rw [List.length_append]; exact ho', fun k hk => (World.ownsRow.lt ho' k hk).2, fun j hj => ?_, fun j l hj hl hne b hb => ?_, fun j b hj hb => ?_⟩
    · have hj' : j < X.length + 1 := by simpa using hj
      rw [hget j hj', hX j hj']
      by_cases hjx : j = X.length
      · rw [if_pos hjx, if_pos hjx]
        exact ⟨owns_block hu fun k hk => hgg.block k (World.ownsRow.lt hu k hk).2 (fun hb => hvu k hk hb.symm), fun k hk => Nat.lt_of_lt_of_le (World.ownsRow.lt hu k hk).2 hgg.size⟩
      · rw [if_neg hjx, if_neg hjx]
        have hr := k4 j (by omega)
        exact ⟨owns_block hr.1 fun k hk => hgg.block k (World.ownsRow.lt hr.1 k hk).2 (fun hb => k6 j k (by omega) hk hb.symm), fun k hk => Nat.lt_of_lt_of_le (World.ownsRow.lt hr.1 k hk).2 hgg.size⟩
    · have hj' : j < X.length + 1 := by simpa using hj
      have hl' : l < X.length + 1 := by simpa using hl
      rw [hget j hj'] at hb
      rw [hget l hl']
      by_cases hjx : j = X.length
      · rw [if_pos hjx] at hb
        rw [if_neg (by omega)]
        intro hl2
        have h1 := (k4 l (by omega)).2 b hl2
        have h2 := hfar b hb
        omega
      · rw [if_neg hjx] at hb
        by_cases hlx : l = X.length
        · rw [if_pos hlx]
          intro hl2
          have h1 := (k4 j (by omega)).2 b hb
          have h2 := hfar b hl2
          omega
        · rw [if_neg hlx]; exact k5 j l (by omega) (by omega) hne b hb
    · have hj' : j < X.length + 1 := by simpa using hj
      rw [hget j hj'] at hb
      intro hv
      by_cases hjx : j = X.length
      · rw [if_pos hjx] at hb
        have h2 := (World.ownsRow.lt hu b hb).2
        rcases hv' b hv with h1 | h1
        · exact hvu b hb h1
        · omega
      · rw [if_neg hjx] at hb
        have h2 := (World.ownsRow.lt (k4 j (by omega)).1 b hb).2
        rcases hv' b hv with h1 | h1
        · exact k6 j b (by omega) hb h1
        · omega
end
def RdGS (row : α → List Value) (w : World) (v : Value) (X : List (List α)) : Prop :=
  ∃ a cap, v = .slice a X.length cap ∧ X.length ≤ 9223372036854775807 ∧ ∀ k, k < X.length → ∃ b off u, a = some ⟨b, off, none⟩ ∧ w.cell? ⟨b, off + k, none⟩ = some u ∧ RdRow 1 row w u (X.getD k [])
theorem RdGS.below {a b : World} {v : Value} {X : List (List α)} (h : RdGS row a v X) (hb : Below a.heap.size a b) : RdGS row b v X := by
  obtain ⟨ad, cap, hv, hl, hc⟩ := h
  refine ⟨ad, cap, hv, hl, fun k hk => ?_⟩
  obtain ⟨bl, off, u, ha, hcell, hu⟩ := hc k hk
  exact ⟨bl, off, u, ha, by rw [hb.cell (p := ⟨bl, off + k, none⟩) (World.block_lt_of_cell? a _ hcell)]; exact hcell, hu.below hb⟩
theorem OwnGS.rd (hrow : ∀ x, (row x).length = 1) {ES e : TypeId} {lo hi : Nat} {w : World} {v : Value} {X : List (List α)} (h : OwnGS row ES e lo hi w v X) : RdGS row w v X := by
  by_cases hne : X = []
  · subst hne
    obtain ⟨vs, k1, k2, _⟩ := h
    rcases k2.2 with ⟨rfl, _⟩ | ⟨g, cap, cur, rfl, _⟩
    · exact ⟨none, 0, rfl, by simp, fun k hk => by simp at hk⟩
    · exact ⟨_, cap, rfl, by simp, fun k hk => by simp at hk⟩
  · obtain ⟨g, n, cap, rfl, rfl, hn, hcm, h1, h2, h3⟩ := h.shape hne
    refine ⟨_, cap, rfl, by omega, fun k hk => ?_⟩
    obtain ⟨u, hu, _, hur, _⟩ := h.get k hk
    exact ⟨g, 0, u, rfl, by rw [Nat.zero_add]; exact hu, hur.rd hrow⟩
theorem OwnGS.line {ES e : TypeId} {lo hi : Nat} {w : World} {X : List (List α)} {g n cap : Nat} (h : OwnGS row ES e lo hi w (.slice (some ⟨g, 0, none⟩) n cap) X) (i : Nat) (hi' : i < X.length) :
    ∃ u, w.cell? ⟨g, i, none⟩ = some u ∧ OwnRow e 1 row lo hi w u (X.getD i []) ∧
      ∀ w1 ys, w1.ownsRow lo e 1 u ys.length (ys.flatMap row) → (∀ k, k < w.heap.size → some k ≠ u.ownBlock → w1.heap[k]? = w.heap[k]?) → OwnGS row ES e lo hi w1 (.slice (some ⟨g, 0, none⟩) n cap) (X.set i ys) := by
  obtain ⟨vs, k1, k2, k3, k4, k5, k6⟩ := h
  obtain rfl : n = X.length := by
    rcases k2.2 with ⟨h0, _⟩ | ⟨g', cap', cur, he, _⟩
    · cases h0
    · cases he; rfl
  have hcell := World.ownsRow.cellAt k2 i (show i < X.length * 1 by omega)
  have hvi : i < vs.length := by omega
  have hge : vs.getD i undef = vs[i] := by simp [List.getD, hvi]
  refine ⟨vs.getD i undef, by rw [hcell, List.getElem?_eq_getElem hvi, hge], k4 i hi', fun w1 ys ho hg => ?_⟩
  have hX : ∀ j, (X.set i ys).getD j [] = if j = i then ys else X.getD j [] := fun j => by
    by_cases hji : j = i
    · subst hji; rw [if_pos rfl]; simp [List.getD, hi']
    · rw [if_neg hji]; simp [List.getD, Ne.symm hji]
  refine ⟨vs, by simp [k1], ?_, k3, fun j hj => ?_, fun j l hj hl => ?_, fun j b hj hb => ?_⟩
  · rw [List.length_set]
    exact owns_block k2 fun k hk => hg _ (k2.lt _ hk).2 (fun hb => k6 i _ hi' hb.symm hk)
  · rw [List.length_set] at hj
    rw [hX j]
    by_cases hji : j = i
    · subst hji
      rw [if_pos rfl]
      exact ⟨ho, (k4 j hj).2⟩
    · rw [if_neg hji]
      have hr := k4 j hj
      refine ⟨owns_block hr.1 fun k hk => ?_, hr.2⟩
      exact hg k (World.ownsRow.lt hr.1 k hk).2 (fun hb => k5 j i hj hi' hji k hk hb.symm)
  · rw [List.length_set] at hj hl
    exact k5 j l hj hl
  · rw [List.length_set] at hj
    exact k6 j b hj hb
def mixR (f : Nat → List α) (X : List (List α)) (k : Nat) : List (List α) := (List.range X.length).map fun i => if i < k then f i else X.getD i []
theorem mixR_len (f : Nat → List α) (X : List (List α)) (k : Nat) : (mixR f X k).length = X.length := by simp [mixR]
theorem mixR_at (f : Nat → List α) (X : List (List α)) (k i : Nat) (hi : i < (mixR f X k).length) : (mixR f X k)[i] = if i < k then f i else X.getD i [] := by simp [mixR]
theorem mixR_get (f : Nat → List α) (X : List (List α)) (k i : Nat) (hi : i < X.length) : (mixR f X k).getD i [] = if i < k then f i else X.getD i [] := by
  have h1 : i < (mixR f X k).length := by rw [mixR_len]; exact hi
  have e : (mixR f X k).getD i [] = (mixR f X k)[i] := by simp [List.getD, h1]
  rw [e, mixR_at]
theorem mixR_zero (f : Nat → List α) (X : List (List α)) : mixR f X 0 = X := by
  apply List.ext_getElem
  · simp [mixR_len]
  · intro i h1 h2
    rw [mixR_at, if_neg (by omega)]
    simp [List.getD, h2]
theorem mixR_succ (f : Nat → List α) (X : List (List α)) (k : Nat) : (mixR f X k).set k (f k) = mixR f X (k + 1) := by
  apply List.ext_getElem
  · simp [mixR_len]
  · intro i h1 h2
    rw [mixR_at, List.getElem_set]
    by_cases hik : k = i
    · subst hik
      rw [if_pos rfl, if_pos (by omega)]
    · rw [if_neg hik, mixR_at]
      by_cases hlt : i < k
      · rw [if_pos hlt, if_pos (by omega)]
      · rw [if_neg hlt, if_neg (by omega)]
def sumR (X : List (List α)) : Nat := (X.map List.length).sum
theorem sumR_snoc (X : List (List α)) (k : Nat) (hk : k < X.length) : sumR (X.take (k + 1)) = sumR (X.take k) + (X.getD k []).length := by
  have e1 : X.take (k + 1) = X.take k ++ [X[k]] := by rw [List.take_add_one, List.getElem?_eq_getElem hk]; rfl
  have e2 : X.getD k [] = X[k] := by simp [List.getD, hk]
  unfold sumR
  rw [e1, e2, List.map_append, List.sum_append]
  simp
theorem sumR_le (X : List (List α)) (k : Nat) : sumR (X.take k) ≤ sumR X := by
  have h : sumR X = sumR (X.take k) + sumR (X.drop k) := by
    unfold sumR
    rw [← List.sum_append, ← List.map_append, List.take_append_drop]
  omega
theorem sumR_at (X : List (List α)) (k : Nat) (hk : k < X.length) : (X.getD k []).length ≤ sumR X := by
  have h1 := sumR_snoc X k hk
  have h2 := sumR_le X (k + 1)
  omega

end Go.RowKit
end
section
set_option linter.unusedVariables false
namespace Go.Proofs.YtjokodlappeapaaDoor
open Go.ChangeShapes Go.WideShapes Go.ChangeAt Go.RowKit
set_option linter.unusedSimpArgs false
abbrev OwnSS (lo hi : Nat) (w : World) (v : Value) (X : List (List ByteArray)) : Prop := OwnGS rowT 22 9 lo hi w v X
theorem OwnGS.nil {lo hi : Nat} (w : World) : OwnSS lo hi w (.slice none 0 0) [] :=
  ⟨[], rfl, ⟨by simp, Or.inl ⟨rfl, rfl⟩⟩, fun k hk => by simp [Value.ownBlock] at hk, fun i hi => by simp at hi, fun i j hi => by simp at hi, fun i b hi => by simp at hi⟩
def markGT (q : Nat) (X : List (List ByteArray)) (i : Nat) : List ByteArray := marksT (q + sumR (X.take i)) (X.getD i []).length
def marksGT (q : Nat) (X : List (List ByteArray)) : List (List ByteArray) := mixR (markGT q X) X X.length
/-- a row in a block of its own -/
theorem own_tight {lo hi : Nat} {w : World} {u : Value} {p : List ByteArray} (h : OwnT lo hi w u p) : ∃ l2 h2, OwnT l2 h2 w u p ∧ h2 ≤ w.heap.size ∧
    lo ≤ l2 ∧ (∀ w2, Upd l2 h2 w w2 → Upd lo hi w w2) ∧ ∀ w2, Upd l2 h2 w w2 → ∀ k, k < w.heap.size → some k ≠ u.ownBlock → w2.heap[k]? = w.heap[k]? := by
  have hl := World.ownsRow.lt h.1
  have hhi := h.2
  obtain ⟨h1, hd⟩ := h.1
  rcases hd with ⟨hv, hn⟩ | ⟨g, cap, cur, hv, hlo, hrest⟩
  · subst hv
    have hx : p = [] := List.eq_nil_of_length_eq_zero hn
    subst hx
    exact ⟨lo, 0, OwnRow.nil _ rfl, Nat.zero_le _, Nat.le_refl _, fun w2 hu => ⟨hu.os, hu.tape, hu.output, hu.size, fun k _ hk => hu.block k (Or.inr (Nat.zero_le _)) hk⟩, fun w2 hu k hk _ => hu.block k (Or.inr (Nat.zero_le _)) hk⟩
  · subst hv
    have hg1 := hhi g rfl
    have hg2 := (hl g rfl).2
    refine ⟨g, g + 1, ⟨⟨h1, Or.inr ⟨g, cap, cur, rfl, Nat.le_refl _, hrest⟩⟩, fun k hk => ?_⟩, hg2, hlo, fun w2 hu => ⟨hu.os, hu.tape, hu.output, hu.size, fun k hk hl => hu.block k (by omega) hl⟩, fun w2 hu k hk hne => hu.block k ?_ hk⟩
    · simp only [Value.ownBlock, Option.some.injEq] at hk
      omega
    · have : k ≠ g := fun e => hne (by rw [e]; rfl)
      omega
end Go.Proofs.YtjokodlappeapaaDoor
end
