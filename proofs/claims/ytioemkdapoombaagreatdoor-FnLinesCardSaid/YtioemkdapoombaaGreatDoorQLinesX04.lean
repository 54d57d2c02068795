/- The law LinesX: what it rests on, part 4 of 46. -/
import Derived.Deep.AppendLies
import Derived.Deep.AppendSrc
import Derived.Deep.Upon
import Derived.Deep.MidRow
import Derived.Maps.Own
import Derived.Maps.OwnOps
import Derived.Maps.OwnSet
import Derived.Maps.RangeWalk
import Derived.WalkArith
import Derived.Test.YtioemkdapoombaaGreatDoorQLinesX01
section
set_option linter.unusedVariables false
namespace Go.RowKit
section
variable {α : Type} {sz : Nat} {row : α → List Value}
/-- a slice of structs that is only read; row x: the cells of x -/
def RdRow (sz : Nat) (row : α → List Value) (w : World) (v : Value) (xs : List α) : Prop :=
  ∃ a cap, v = .slice a xs.length cap ∧ xs.length ≤ 9223372036854775807 ∧ ∀ k (hk : k < xs.length), ∃ b off, a = some ⟨b, off, none⟩ ∧ ∀ c u, (row xs[k])[c]? = some u → w.cell? ⟨b, off + k * sz + c, none⟩ = some u
theorem RdRow.below {a b : World} {v : Value} {xs : List α} (h : RdRow sz row a v xs) (hb : Below a.heap.size a b) : RdRow sz row b v xs := by
  obtain ⟨ad, cap, hv, hl, hc⟩ := h
  refine ⟨ad, cap, hv, hl, fun k hk => ?_⟩
  obtain ⟨bl, off, ha, hcell⟩ := hc k hk
  exact ⟨bl, off, ha, fun c u hu => by rw [hb.cell (p := ⟨bl, off + k * sz + c, none⟩) (World.block_lt_of_cell? a _ (hcell c u hu))]; exact hcell c u hu⟩
/-- a row of structs of the call's own in a block from lo up to hi -/
def OwnRow (E : TypeId) (sz : Nat) (row : α → List Value) (lo hi : Nat) (w : World) (v : Value) (xs : List α) : Prop :=
  w.ownsRow lo E sz v xs.length (xs.flatMap row) ∧ ∀ k, v.ownBlock = some k → k < hi
theorem flat_get (hrow : ∀ x, (row x).length = sz) : ∀ (xs : List α) (k c : Nat) (hk : k < xs.length), c < sz → (xs.flatMap row)[k * sz + c]? = (row xs[k])[c]? := by
  intro xs
  induction xs with
  | nil => intro k c hk; simp at hk
  | cons x xs ih =>
    intro k c hk hc
    cases k with
    | zero => simp only [Nat.zero_mul, Nat.zero_add, List.flatMap_cons, List.getElem_cons_zero]; rw [List.getElem?_append_left (by rw [hrow]; exact hc)]
    | succ k =>
      have hk' : k < xs.length := by simpa using hk
      simp only [List.flatMap_cons, List.getElem_cons_succ]
      rw [List.getElem?_append_right (by rw [hrow, Nat.succ_mul]; omega), hrow]
      have e : (k + 1) * sz + c - sz = k * sz + c := by rw [Nat.succ_mul]; omega
      rw [e]
      exact ih k c hk' hc
theorem flat_len (hrow : ∀ x, (row x).length = sz) (xs : List α) : (xs.flatMap row).length = xs.length * sz := by
  induction xs with
  | nil => simp
  | cons x xs ih => simp [hrow, ih, Nat.succ_mul]; omega
theorem OwnRow.rd {E : TypeId} {lo hi : Nat} {a : World} {v : Value} {xs : List α} (hrow : ∀ x, (row x).length = sz) (h : OwnRow E sz row lo hi a v xs) : RdRow sz row a v xs := by
  have h' := h.1
  rcases h.1.2 with ⟨rfl, hn⟩ | ⟨g, cap, cur, rfl, hg, hh, hn, hm, _⟩
  · have hx : xs = [] := List.eq_nil_of_length_eq_zero hn
    subst hx
    exact ⟨none, 0, rfl, by simp, fun k hk => by simp at hk⟩
  · refine ⟨_, _, rfl, by unfold maxLen at hm; omega, fun k hk => ⟨g, 0, rfl, fun c u hu => ?_⟩⟩
    have hc : c < sz := by
      have := (List.getElem?_eq_some_iff.1 hu).1
      rw [hrow] at this; exact this
    have hlt : k * sz + c < xs.length * sz := by
      have h1 : (k + 1) * sz ≤ xs.length * sz := Nat.mul_le_mul_right _ hk
      rw [Nat.succ_mul] at h1; omega
    rw [Nat.zero_add, World.ownsRow.cellAt h' _ hlt, flat_get hrow xs k c hk hc]
    exact hu
theorem OwnRow.below {E : TypeId} {lo hi : Nat} {a b : World} {v : Value} {xs : List α} (h : OwnRow E sz row lo hi a v xs) (hb : Below a.heap.size a b) : OwnRow E sz row lo hi b v xs := ⟨owns_below h.1 hb, h.2⟩
theorem OwnRow.al {E : TypeId} {lo hi : Nat} {a : World} {v : Value} {xs : List α} (h : OwnRow E sz row lo hi a v xs) (o : Obj) : OwnRow E sz row lo hi (a.alloc o) v xs := ⟨World.ownsRow.alloc h.1 o, h.2⟩
theorem OwnRow.drN {E : TypeId} {lo hi : Nat} {a : World} {v : Value} {xs : List α} (h : OwnRow E sz row lo hi a v xs) (n : Nat) : OwnRow E sz row lo hi (a.drewN n) v xs := h
theorem OwnRow.wide {E : TypeId} {lo hi lo' hi' : Nat} {a : World} {v : Value} {xs : List α} (h : OwnRow E sz row lo hi a v xs) (h1 : lo' ≤ lo) (h2 : hi ≤ hi') : OwnRow E sz row lo' hi' a v xs := ⟨owns_base h.1 h1, fun k hk => Nat.lt_of_lt_of_le (h.2 k hk) h2⟩
theorem OwnRow.tight {E : TypeId} {lo hi : Nat} {a : World} {v : Value} {xs : List α} (h : OwnRow E sz row lo hi a v xs) : OwnRow E sz row lo a.heap.size a v xs := ⟨h.1, fun k hk => (World.ownsRow.lt h.1 k hk).2⟩
theorem OwnRow.upd {E : TypeId} {lo hi lo' hi' : Nat} {a b : World} {v : Value} {xs : List α} (h : OwnRow E sz row lo hi a v xs) (hb : Upd lo' hi' a b) (hd : hi ≤ lo' ∨ hi' ≤ lo) : OwnRow E sz row lo hi b v xs := by
  refine ⟨?_, h.2⟩
  obtain ⟨h1, h2⟩ := h.1
  refine ⟨h1, ?_⟩
  rcases h2 with h2 | ⟨g, cap, cur, hv, hg, hh, r⟩
  · exact Or.inl h2
  · refine Or.inr ⟨g, cap, cur, hv, hg, ?_, r⟩
    have hgs := (Array.getElem?_eq_some_iff.1 hh).1
    have hgh := h.2 g (by rw [hv]; rfl)
    rw [hb.block g (by omega) hgs]; exact hh
theorem OwnRow.made {E : TypeId} {lo g : Nat} {a : World} {xs : List α} (hx : xs = []) (hg : g = a.heap.size) (hB : lo ≤ a.heap.size) : OwnRow E sz row lo (a.heap.size + 1) (a.alloc (.cells #[] E)) (.slice (some ⟨g, 0, none⟩) 0 0) xs := by
  subst hx; subst hg
  refine ⟨by simpa using World.ownsRow_made (size := sz) a #[] 0 hB (by decide) (by simp), fun k hk => ?_⟩
  simp only [Value.ownBlock, Option.some.injEq] at hk
  omega
theorem OwnRow.nil {E : TypeId} {lo hi : Nat} {a : World} (v : Value) (hv : v = .slice none 0 0) : OwnRow E sz row lo hi a v [] := by subst hv; exact ⟨by simpa using World.ownsRow_nil a lo E sz, fun k hk => by simp [Value.ownBlock] at hk⟩
theorem push_row {P : Program} {ops : Array Oper} {rest : List Oper} {o : Oper} {a : Act} {Q : Exit → Act → World → Prop} (hgd : o.guard = none) (s x : Operand) (t e : TypeId)
    (ho : o.op = .call { callee := .builtin .append, args := #[s, x], argTypes := #[t, t] })
    (ht : P.underlying t = some (.slice e)) (z : Value) (bytes : Nat) (hinfo : (P.info? e).map (fun i => (i.zero, i.size, i.bytes)) = some (some z, sz, bytes)) (hzs : z.cells.size = sz) (hsz : 0 < sz) (hby : bytes ≤ 1000)
    (hrow : ∀ x, (row x).length = sz) (lo hi : Nat) (v : Value) (xs : List α) (y : α) (cs : Array Value) (w0 : World) (hcs : cs.toList = row y) (hone : ∀ u ∈ row y, u.oneCell' = true)
    (hs : a.eval s = v) (hx : a.eval x = .slice (some ⟨w0.heap.size, 0, none⟩) 1 1)
    (hown : OwnRow e sz row lo hi w0 v xs) (hlen : xs.length < 1000000000) (hB : lo ≤ w0.heap.size)
    (h : ∀ v' w', OwnRow e sz row lo w'.heap.size w' v' (xs ++ [y]) → (∀ A, Below lo A w0 → Below lo A w') → w0.heap.size < w'.heap.size → wpList P ops Q rest (a.put o.dst v') w') :
    wpList P ops Q (o :: rest) a (w0.alloc (.cells cs e)) := by
  obtain ⟨i0, hi0, hz0, hz1, hz2⟩ := info_parts hinfo
  refine wpList_append_own _ hgd s x t ho lo e i0 z sz bytes ht hi0 hz0 hz1 hz2 hzs hsz v xs.length (xs.flatMap row) hs (World.ownsRow.alloc hown.1 _) ⟨w0.heap.size, 0, none⟩ 1 1 (row y) hx (by rw [hrow]; simp) ?_ hone ?_ ?_ ?_ ?_
  · intro j u hj
    rw [← hcs] at hj
    exact World.news_of_block (cs := cs) (t := e) (fr := (0, 0)) (heap_alloc_new w0 _) j u hj
  · unfold maxLen; omega
  · have h1 : (xs.length + 1) * bytes ≤ 1000000000 * 1000 := Nat.mul_le_mul (by omega) hby
    omega
  · simp; omega
  · intro v' w' ho' hg _
    refine h v' w' ⟨?_, fun k hk => (World.ownsRow.lt ho' k hk).2⟩ (fun A hA => ?_) ?_
    · have e1 : (xs ++ [y]).length = xs.length + 1 := by simp
      have e2 : (xs ++ [y]).flatMap row = xs.flatMap row ++ row y := by simp
      rw [e1, e2]; exact ho'
    · exact (hA.alloc hB _).grown hg (by simp; omega) (fun k hk => (World.ownsRow.lt hown.1 k hk).1)
    · have := hg.size; simp at this; omega
theorem OwnIR.off {E : TypeId} {lo hi : Nat} {a b : World} {v : Value} {xs : List Int} {r : Option Nat} (h : OwnIR E lo hi a v xs) (hg : a.grownBy b r) (hoff : ∀ k, r = some k → k < lo ∨ hi ≤ k) : OwnIR E lo hi b v xs := by
  refine ⟨?_, h.2⟩
  obtain ⟨h1, h2⟩ := h.1
  refine ⟨h1, ?_⟩
  rcases h2 with h2 | ⟨g, cap, cur, hv, hlo, hh, r'⟩
  · exact Or.inl h2
  · refine Or.inr ⟨g, cap, cur, hv, hlo, ?_, r'⟩
    have hgs := (Array.getElem?_eq_some_iff.1 hh).1
    have hgh := h.2 g (by rw [hv]; rfl)
    rw [hg.block g hgs (fun e => by have := hoff g e.symm; omega)]; exact hh
theorem push_row_at {P : Program} {ops : Array Oper} {rest : List Oper} {o : Oper} {a : Act} {Q : Exit → Act → World → Prop} (hgd : o.guard = none) (s x : Operand) (t e : TypeId)
    (ho : o.op = .call { callee := .builtin .append, args := #[s, x], argTypes := #[t, t] })
    (ht : P.underlying t = some (.slice e)) (z : Value) (bytes : Nat) (hinfo : (P.info? e).map (fun i => (i.zero, i.size, i.bytes)) = some (some z, sz, bytes)) (hzs : z.cells.size = sz) (hsz : 0 < sz) (hby : bytes ≤ 1000)
    (hrow : ∀ x, (row x).length = sz) (lo hi : Nat) (v : Value) (xs : List α) (y : α) (cs : Array Value) (w0 : World) (hcs : cs.toList = row y) (hone : ∀ u ∈ row y, u.oneCell' = true)
    (hs : a.eval s = v) (hx : a.eval x = .slice (some ⟨w0.heap.size, 0, none⟩) 1 1)
    (hown : OwnRow e sz row lo hi w0 v xs) (hlen : xs.length < 1000000000) (hB : lo ≤ w0.heap.size)
    (h : ∀ v' w', OwnRow e sz row lo w'.heap.size w' v' (xs ++ [y]) → (∀ A, Below lo A w0 → Below lo A w') → w0.heap.size < w'.heap.size → w0.grownBy w' v.ownBlock → (v'.ownBlock = v.ownBlock ∨ v'.ownBlock = some (w0.heap.size + 1)) → wpList P ops Q rest (a.put o.dst v') w') :
    wpList P ops Q (o :: rest) a (w0.alloc (.cells cs e)) := by
  obtain ⟨i0, hi0, hz0, hz1, hz2⟩ := info_parts hinfo
  refine wpList_append_own_at (w := _) hgd s x t ho lo e i0 z sz bytes ht hi0 hz0 hz1 hz2 hzs hsz v xs.length (xs.flatMap row) hs (World.ownsRow.alloc hown.1 _) ⟨w0.heap.size, 0, none⟩ 1 1 (row y) hx (by rw [hrow]; simp) ?_ hone ?_ ?_ ?_ ?_
  · intro j u hj
    rw [← hcs] at hj
    exact World.news_of_block (cs := cs) (t := e) (fr := (0, 0)) (heap_alloc_new w0 _) j u hj
  · unfold maxLen; omega
  · have h1 : (xs.length + 1) * bytes ≤ 1000000000 * 1000 := Nat.mul_le_mul (by omega) hby
    omega
  · simp; omega
  · intro v' w' ho' hg _ hat
    refine h v' w' ⟨?_, fun k hk => (World.ownsRow.lt ho' k hk).2⟩ (fun A hA => ?_) ?_ (grownBy_trans (World.grownBy_alloc w0 _ _) hg) (by simpa using hat)
    · have e1 : (xs ++ [y]).length = xs.length + 1 := by simp
      have e2 : (xs ++ [y]).flatMap row = xs.flatMap row ++ row y := by simp
      rw [e1, e2]; exact ho'
    · exact (hA.alloc hB _).grown hg (by simp; omega) (fun k hk => (World.ownsRow.lt hown.1 k hk).1)
    · have := hg.size; simp at this; omega
/-- the blocks from lo up to hi are as they were -/
def Same (lo hi : Nat) (a b : World) : Prop := hi ≤ b.heap.size ∧ ∀ k, lo ≤ k → k < hi → b.heap[k]? = a.heap[k]?
theorem Same.refl {lo hi : Nat} {a : World} (h : hi ≤ a.heap.size) : Same lo hi a a := ⟨h, fun _ _ _ => rfl⟩
theorem Same.below {lo hi : Nat} {a b c : World} (h : Same lo hi a b) (k : Below b.heap.size b c) : Same lo hi a c :=
  ⟨Nat.le_trans h.1 k.size, fun i h1 h2 => (k.block i (Nat.lt_of_lt_of_le h2 h.1)).trans (h.2 i h1 h2)⟩
theorem Same.grown {lo hi : Nat} {a b c : World} {r : Option Nat} (h : Same lo hi a b) (hg : b.grownBy c r) (hoff : ∀ k, r = some k → k < lo ∨ hi ≤ k) : Same lo hi a c :=
  ⟨Nat.le_trans h.1 hg.size, fun i h1 h2 => (hg.block i (Nat.lt_of_lt_of_le h2 h.1) (fun e => by have := hoff i e.symm; omega)).trans (h.2 i h1 h2)⟩
theorem Same.upd {lo hi lo' hi' : Nat} {a b c : World} (h : Same lo hi a b) (k : Upd lo' hi' b c) (hd : hi' ≤ lo ∨ hi ≤ lo') : Same lo hi a c :=
  ⟨Nat.le_trans h.1 k.size, fun i h1 h2 => (k.block i (by omega) (Nat.lt_of_lt_of_le h2 h.1)).trans (h.2 i h1 h2)⟩
theorem Same.cell {lo hi : Nat} {a b : World} (h : Same lo hi a b) {bl o : Nat} (h1 : lo ≤ bl) (h2 : bl < hi) : b.cell? ⟨bl, o, none⟩ = a.cell? ⟨bl, o, none⟩ := World.cell?_of_block (w := a) (h.2 bl h1 h2)
theorem new_cell {W w4 : World} {cs : Array Value} {T : TypeId} (hb : Below (W.alloc (.cells cs T)).drew.heap.size (W.alloc (.cells cs T)).drew w4) (j : Nat) (u : Value) (h : cs[j]? = some u) :
    w4.cell? ⟨W.heap.size, j, none⟩ = some u ∧ w4.frozen? ⟨W.heap.size, j, none⟩ = false := by
  have hlt : W.heap.size < (W.alloc (.cells cs T)).drew.heap.size := by show W.heap.size < (W.alloc (.cells cs T)).heap.size; simp
  constructor
  · rw [hb.cell (p := ⟨W.heap.size, j, none⟩) hlt]
    show (W.alloc (.cells cs T)).cell? ⟨W.heap.size, j, none⟩ = some u
    rw [World.cell?_alloc_at _ _ _ _ rfl]; exact h
  · rw [hb.frozen (p := ⟨W.heap.size, j, none⟩) hlt]
    show (W.alloc (.cells cs T)).frozen? ⟨W.heap.size, j, none⟩ = false
    exact World.frozen?_alloc_at _ _ _ _ rfl
theorem new_lt {W w4 : World} {cs : Array Value} {T : TypeId} (hb : Below (W.alloc (.cells cs T)).drew.heap.size (W.alloc (.cells cs T)).drew w4) : W.heap.size < w4.heap.size := by
  have h := hb.size
  have h2 : (W.alloc (.cells cs T)).drew.heap.size = W.heap.size + 1 := World.size_alloc _ _
  omega
theorem below_new {W w4 : World} {o : Obj} (hb : Below (W.alloc o).drew.heap.size (W.alloc o).drew w4) : Below W.heap.size W w4 := (((Below.refl _ _).al o).dr).tr hb
theorem below_drew {W w4 : World} (hb : Below W.drew.heap.size W.drew w4) : Below W.heap.size W w4 := ((Below.refl _ _).dr).tr hb
theorem grown_cell {W w7 : World} {o : Obj} {r : Option Nat} (hg : (W.alloc o).drew.grownBy w7 r) (bl off : Nat) (u : Value) (hc : W.cell? ⟨bl, off, none⟩ = some u) (hne : r ≠ some bl) : w7.cell? ⟨bl, off, none⟩ = some u := by
  have hlt : bl < W.heap.size := World.block_lt_of_cell? W _ hc
  refine hg.cell (a := ⟨bl, off, none⟩) ?_ (fun e => hne e.symm)
  show (W.alloc o).cell? ⟨bl, off, none⟩ = some u
  rw [World.cell?_alloc_past _ _ _ hlt]; exact hc
theorem grown_frozen {W w7 : World} {o : Obj} {r : Option Nat} (hg : (W.alloc o).drew.grownBy w7 r) (bl off : Nat) (hl : bl < W.heap.size) (hf : W.frozen? ⟨bl, off, none⟩ = false) (hne : r ≠ some bl) : w7.frozen? ⟨bl, off, none⟩ = false := by
  rw [hg.frozen_far ⟨bl, off, none⟩ (by show bl < (W.alloc o).heap.size; rw [World.size_alloc]; omega) (fun e => hne e.symm)]
  show (W.alloc o).frozen? ⟨bl, off, none⟩ = false
  rw [World.frozen?_alloc_past _ _ _ hl]; exact hf
theorem OwnRow.at {E : TypeId} {lo hi g n cap : Nat} {a : World} {xs : List α} (hrow : ∀ x, (row x).length = sz) (h : OwnRow E sz row lo hi a (.slice (some ⟨g, 0, none⟩) n cap) xs) (k c : Nat) (hk : k < xs.length) (hc : c < sz) :
    (∃ old, a.cell? ⟨g, k * sz + c, none⟩ = some old) ∧ a.frozen? ⟨g, k * sz + c, none⟩ = false := by
  have h' := h.1
  rcases h.1.2 with ⟨h0, _⟩ | ⟨g', cap', cur, he, _, _, _⟩
  · cases h0
  · cases he
    have hlt : k * sz + c < xs.length * sz := by
      have h1 : (k + 1) * sz ≤ xs.length * sz := Nat.mul_le_mul_right _ hk
      rw [Nat.succ_mul] at h1; omega
    have hl : k * sz + c < (xs.flatMap row).length := by rw [flat_len hrow]; exact hlt
    exact ⟨⟨(xs.flatMap row)[k * sz + c], by rw [World.ownsRow.cellAt h' _ hlt, List.getElem?_eq_getElem hl]⟩, World.ownsRow.frozenAt h' _⟩
theorem step_push_row {P : Program} {ops : Array Oper} {o : Oper} {a : Act} {K : Act → World → Prop} {Q : Exit → Act → World → Prop} {Ep : Prop} (hgd : o.guard = none) (s x : Operand) (t e : TypeId)
    (ho : o.op = .call { callee := .builtin .append, args := #[s, x], argTypes := #[t, t] })
    (ht : P.underlying t = some (.slice e)) (z : Value) (bytes : Nat) (hinfo : (P.info? e).map (fun i => (i.zero, i.size, i.bytes)) = some (some z, sz, bytes)) (hzs : z.cells.size = sz) (hsz : 0 < sz) (hby : bytes ≤ 1000)
    (hrow : ∀ x, (row x).length = sz) (lo hi g : Nat) (v : Value) (xs : List α) (y : α) (cs : Array Value) (w1 : World) (hcs : cs.toList = row y) (hone : ∀ u ∈ row y, u.oneCell' = true)
    (hs : a.eval s = v) (hx : a.eval x = .slice (some ⟨g, 0, none⟩) 1 1) (hblk : w1.heap[g]? = some (.cells cs e (0, 0)))
    (hown : OwnRow e sz row lo hi w1 v xs) (hlen : xs.length < 1000000000) (hB : lo ≤ w1.heap.size)
    (h : ∀ v' w', OwnRow e sz row lo w'.heap.size w' v' (xs ++ [y]) → w1.grownBy w' v.ownBlock → (v'.ownBlock = v.ownBlock ∨ v'.ownBlock = some w1.heap.size) → w1.heap.size ≤ w'.heap.size → K (a.put o.dst v') w') :
    if Region.wanted o (yielded ops a.tmps) = true then Oper.wp P o a w1 K Q else Ep := by
  obtain ⟨i0, hi0, hz0, hz1, hz2⟩ := info_parts hinfo
  refine step_append_lies (w := w1) hgd s x t ho lo e i0 z sz bytes ht hi0 hz0 hz1 hz2 hzs hsz v xs.length (xs.flatMap row) hs hown.1 ⟨g, 0, none⟩ 1 1 (row y) hx (by rw [hrow]; simp) ?_ hone (by omega) ?_ ?_ hB _ rfl ?_
  · intro j u hj
    rw [← hcs] at hj
    exact World.news_of_block hblk j u hj
  · unfold maxLen; omega
  · have h1 : (xs.length + 1) * bytes ≤ 1000000000 * 1000 := Nat.mul_le_mul (by omega) hby
    omega
  · intro g' cap w' ho' hg hat _
    refine h _ w' ⟨?_, fun k hk => (World.ownsRow.lt ho' k hk).2⟩ hg ?_ hg.size
    · have e1 : (xs ++ [y]).length = xs.length + 1 := by simp
      have e2 : (xs ++ [y]).flatMap row = xs.flatMap row ++ row y := by simp
      rw [e1, e2]; exact ho'
    · rcases hat with hat | hat
      · left; rw [hat]; rfl
      · right; rw [hat]; rfl
end
end Go.RowKit
end
section
set_option linter.unusedVariables false
namespace Go.RowKit
section
variable {α : Type} {sz : Nat} {row : α → List Value}
/-- a slice of the call's own, of elements of sz cells, that may begin anywhere in its row; blocks from lo up to hi -/
def OwnTail (sz : Nat) (row : α → List Value) (lo hi : Nat) (w : World) (v : Value) (xs : List α) : Prop :=
  ∃ g off cap, v = .slice (some ⟨g, off, none⟩) xs.length cap ∧ lo ≤ g ∧ g < hi ∧ g < w.heap.size ∧ xs.length ≤ cap ∧ cap ≤ maxLen ∧
    (∀ j u, (xs.flatMap row)[j]? = some u → w.cell? ⟨g, off + j, none⟩ = some u) ∧ ∀ j, j < cap * sz → (w.cell? ⟨g, off + j, none⟩).isSome = true ∧ w.frozen? ⟨g, off + j, none⟩ = false
theorem OwnTail.block {lo hi : Nat} {a b : World} {v : Value} {xs : List α} (h : OwnTail sz row lo hi a v xs) (hs : a.heap.size ≤ b.heap.size) (hb : ∀ k, v.ownBlock = some k → b.heap[k]? = a.heap[k]?) : OwnTail sz row lo hi b v xs := by
  obtain ⟨g, off, cap, rfl, h1, h2, h3, h4, h5, h6, h7⟩ := h
  have e := hb g rfl
  exact ⟨g, off, cap, rfl, h1, h2, by omega, h4, h5, fun j u hu => by rw [World.cell?_of_block (w := a) e]; exact h6 j u hu, fun j hj => by rw [World.cell?_of_block (w := a) e, World.frozen?_of_block (w := a) e]; exact h7 j hj⟩
theorem OwnTail.lt {lo hi : Nat} {a : World} {v : Value} {xs : List α} (h : OwnTail sz row lo hi a v xs) : ∀ k, v.ownBlock = some k → lo ≤ k ∧ k < hi ∧ k < a.heap.size := by
  obtain ⟨g, off, cap, rfl, h1, h2, h3, _⟩ := h
  intro k hk
  simp only [Value.ownBlock, Option.some.injEq] at hk
  subst hk
  exact ⟨h1, h2, h3⟩
theorem OwnTail.lo {lo hi : Nat} {a : World} {v : Value} {xs : List α} (h : OwnTail sz row lo hi a v xs) : lo < a.heap.size := by
  obtain ⟨g, off, cap, rfl, h1, h2, h3, _⟩ := h
  omega
theorem OwnTail.below {lo hi : Nat} {a b : World} {v : Value} {xs : List α} (h : OwnTail sz row lo hi a v xs) (hb : Below a.heap.size a b) : OwnTail sz row lo hi b v xs :=
  h.block hb.size fun k hk => hb.block k (h.lt k hk).2.2
theorem OwnTail.upd {lo hi lo' hi' : Nat} {a b : World} {v : Value} {xs : List α} (h : OwnTail sz row lo hi a v xs) (hb : Upd lo' hi' a b) (hd : ∀ k, v.ownBlock = some k → k < lo' ∨ hi' ≤ k) : OwnTail sz row lo hi b v xs :=
  h.block hb.size fun k hk => hb.block k (hd k hk) (h.lt k hk).2.2
theorem OwnTail.grown {lo hi : Nat} {a b : World} {r : Option Nat} {v : Value} {xs : List α} (h : OwnTail sz row lo hi a v xs) (hg : a.grownBy b r) (hd : ∀ k, v.ownBlock = some k → r ≠ some k) : OwnTail sz row lo hi b v xs :=
  h.block hg.size fun k hk => hg.block k (h.lt k hk).2.2 (fun e => hd k hk e.symm)
theorem OwnTail.al {lo hi : Nat} {a : World} {v : Value} {xs : List α} (h : OwnTail sz row lo hi a v xs) (o : Obj) : OwnTail sz row lo hi (a.alloc o) v xs :=
  h.below ((Below.refl _ _).al o)
theorem OwnTail.wide {lo hi lo' hi' : Nat} {a : World} {v : Value} {xs : List α} (h : OwnTail sz row lo hi a v xs) (h1 : lo' ≤ lo) (h2 : hi ≤ hi') : OwnTail sz row lo' hi' a v xs := by
  obtain ⟨g, off, cap, rfl, k1, k2, k3⟩ := h
  exact ⟨g, off, cap, rfl, by omega, by omega, k3⟩
theorem OwnTail.tight {lo hi : Nat} {a : World} {v : Value} {xs : List α} (h : OwnTail sz row lo hi a v xs) : OwnTail sz row lo a.heap.size a v xs := by
  obtain ⟨g, off, cap, rfl, k1, k2, k3, r⟩ := h
  exact ⟨g, off, cap, rfl, k1, k3, k3, r⟩
theorem grownBy_setCells (w : World) (g : Nat) : ∀ (vs : List Value) (o : Nat), w.grownBy (w.setCells g o vs) (some g) := by
  intro vs
  induction vs generalizing w with
  | nil => intro o; exact grownBy_refl w _
  | cons v vs ih =>
    intro o
    have h1 : w.grownBy (w.setCell ⟨g, o, none⟩ v) (some g) := ⟨rfl, rfl, rfl, by simp, fun k _ hk => heap_setCell_other w _ k v (fun e => hk (by rw [e]))⟩
    exact grownBy_trans h1 (ih (w.setCell ⟨g, o, none⟩ v) (o + 1))
theorem frozen_setCells (g : Nat) (a : Addr) : ∀ (vs : List Value) (o : Nat) (w : World), (w.setCells g o vs).frozen? a = w.frozen? a := by
  intro vs
  induction vs with
  | nil => intro o w; rfl
  | cons v vs ih =>
    intro o w
    show ((w.setCell ⟨g, o, none⟩ v).setCells g (o + 1) vs).frozen? a = _
    rw [ih, World.frozen?_setCell]
end
end Go.RowKit
end
section
set_option linter.unusedVariables false
namespace Go.RowKit
theorem owns_block {B : Nat} {E : TypeId} {size : Nat} {a b : World} {v : Value} {n : Nat} {xs : List Value} (h : a.ownsRow B E size v n xs) (hb : ∀ k, v.ownBlock = some k → b.heap[k]? = a.heap[k]?) : b.ownsRow B E size v n xs := by
  obtain ⟨h1, h2⟩ := h
  refine ⟨h1, ?_⟩
  rcases h2 with h2 | ⟨g, cap, cur, hv, hg, hh, r⟩
  · exact Or.inl h2
  · refine Or.inr ⟨g, cap, cur, hv, hg, ?_, r⟩
    rw [hb g (by rw [hv]; rfl)]; exact hh
theorem OwnIR.block {E : TypeId} {lo hi : Nat} {a b : World} {v : Value} {xs : List Int} (h : OwnIR E lo hi a v xs) (hb : ∀ k, v.ownBlock = some k → b.heap[k]? = a.heap[k]?) : OwnIR E lo hi b v xs := ⟨owns_block h.1 hb, h.2⟩
theorem grownBy_ald (w : World) (o : Obj) (r : Option Nat) : w.grownBy (w.alloc o).drew r := by
  have h := World.grownBy_alloc w o r
  exact ⟨h.os, h.tape, h.output, h.size, h.block⟩
theorem size_ald (w : World) (o : Obj) : (w.alloc o).drew.heap.size = w.heap.size + 1 := World.size_alloc w o
theorem OwnRow.form {α : Type} {sz : Nat} {row : α → List Value} {E : TypeId} {lo hi : Nat} {w : World} {v : Value} {xs : List α} (h : OwnRow E sz row lo hi w v xs) (hne : 0 < xs.length) : ∃ g n c, v = .slice (some ⟨g, 0, none⟩) n c := by
  obtain ⟨g, c, hv, _⟩ := World.ownsRow.form h.1 hne
  exact ⟨g, _, c, hv⟩
theorem OwnI.cell {E : TypeId} {B g n cap : Nat} {a : World} {xs : List Int} (h : OwnI E B a (.slice (some ⟨g, 0, none⟩) n cap) xs) (k : Nat) (hk : k < xs.length) : a.cell? ⟨g, k, none⟩ = some (.int .i64 (xs.getD k 0)) ∧ a.frozen? ⟨g, k, none⟩ = false := by
  rcases h.shape with ⟨h0, _⟩ | ⟨g', cap', he, _, _, _, _, hc, hf⟩
  · cases h0
  · cases he
    exact ⟨hc k hk, hf k⟩
theorem push_int_at {P : Program} {ops : Array Oper} {rest : List Oper} {o : Oper} {a : Act} {Q : Exit → Act → World → Prop} (hgd : o.guard = none) (s x : Operand) (t e : TypeId)
    (ho : o.op = .call { callee := .builtin .append, args := #[s, x], argTypes := #[t, t] })
    (ht : P.underlying t = some (.slice e)) (hinfo : (P.info? e).map (fun i => (i.zero, i.size, i.bytes)) = some (some (.int .i64 0), 1, 8))
    (B : Nat) (v : Value) (xs : List Int) (n : Int) (w0 : World) (hs : a.eval s = v) (hx : a.eval x = .slice (some ⟨w0.heap.size, 0, none⟩) 1 1)
    (hown : OwnI e B w0 v xs) (hlen : xs.length < 1000000000) (hB : B ≤ w0.heap.size)
    (h : ∀ v' w', OwnI e B w' v' (xs ++ [n]) → w0.grownBy w' v.ownBlock → (v'.ownBlock = v.ownBlock ∨ v'.ownBlock = some (w0.heap.size + 1)) → w0.heap.size < w'.heap.size → wpList P ops Q rest (a.put o.dst v') w') :
    wpList P ops Q (o :: rest) a (w0.alloc (.cells #[.int .i64 n] e)) := by
  obtain ⟨i0, hi, hz0, hz1, hz2⟩ := info_parts hinfo
  refine wpList_append_own_at (w := _) hgd s x t ho B e i0 (.int .i64 0) 1 8 ht hi hz0 hz1 hz2 rfl (by decide) v xs.length (ints xs) hs (World.ownsRow.alloc hown _) ⟨w0.heap.size, 0, none⟩ 1 1 [.int .i64 n] hx rfl ?_ ?_ ?_ ?_ ?_ ?_
  · exact cell_one_new _ _ _
  · intro u hu; simp at hu; subst hu; rfl
  · unfold maxLen; omega
  · omega
  · simp; omega
  · intro v' w' ho' hg _ hat
    refine h v' w' ?_ (grownBy_trans (World.grownBy_alloc w0 _ _) hg) (by simpa using hat) (by have := hg.size; simp at this; omega)
    have e1 : (xs ++ [n]).length = xs.length + 1 := by simp
    have e2 : ints (xs ++ [n]) = ints xs ++ [.int .i64 n] := by simp [ints]
    unfold OwnI; rw [e1, e2]; exact ho'
/-- a row of int64s as a row of elements of one cell -/
def rowI (n : Int) : List Value := [.int .i64 n]
theorem rowI_len (n : Int) : (rowI n).length = 1 := rfl
theorem rowI_one (n : Int) : ∀ u ∈ rowI n, u.oneCell' = true := by
  intro u hu
  simp only [rowI, List.mem_singleton] at hu
  subst hu; rfl
theorem flat_rowI (xs : List Int) : xs.flatMap rowI = ints xs := by
  induction xs with
  | nil => rfl
  | cons x xs ih => rw [List.flatMap_cons, ih]; rfl
theorem OwnIR.row {E : TypeId} {lo hi : Nat} {w : World} {v : Value} {xs : List Int} (h : OwnIR E lo hi w v xs) : OwnRow E 1 rowI lo hi w v xs := ⟨by rw [flat_rowI]; exact h.1, h.2⟩
theorem OwnRow.ints {E : TypeId} {lo hi : Nat} {w : World} {v : Value} {xs : List Int} (h : OwnRow E 1 rowI lo hi w v xs) : OwnIR E lo hi w v xs := ⟨by unfold OwnI; rw [← flat_rowI]; exact h.1, h.2⟩
/-- a slice of slices of int64 in rows of the call's own, no two of them one, in blocks from lo up to hi -/
def OwnG (ES e : TypeId) (lo hi : Nat) (w : World) (v : Value) (X : List (List Int)) : Prop :=
  ∃ vs : List Value, vs.length = X.length ∧ w.ownsRow lo ES 1 v X.length vs ∧ (∀ k, v.ownBlock = some k → k < hi) ∧
    (∀ i, i < X.length → OwnIR e lo hi w (vs.getD i undef) (X.getD i [])) ∧
    (∀ i j, i < X.length → j < X.length → i ≠ j → ∀ b, (vs.getD i undef).ownBlock = some b → (vs.getD j undef).ownBlock ≠ some b) ∧
    ∀ i b, i < X.length → (vs.getD i undef).ownBlock = some b → v.ownBlock ≠ some b
section
variable {ES e : TypeId} {lo hi : Nat} {w : World} {v : Value} {X : List (List Int)}
theorem OwnG.block {w' : World} (h : OwnG ES e lo hi w v X) (hb : ∀ k, lo ≤ k → k < hi → k < w.heap.size → w'.heap[k]? = w.heap[k]?) : OwnG ES e lo hi w' v X := by
  obtain ⟨vs, h1, h2, h3, h4, h5⟩ := h
  refine ⟨vs, h1, owns_block h2 fun k hk => hb k (h2.lt k hk).1 (h3 k hk) (h2.lt k hk).2, h3, fun i hi' => ?_, h5⟩
  have := h4 i hi'
  exact this.block fun k hk => hb k (World.ownsRow.lt this.1 k hk).1 (this.2 k hk) (World.ownsRow.lt this.1 k hk).2
theorem OwnG.below {w' : World} (h : OwnG ES e lo hi w v X) (hb : Below w.heap.size w w') : OwnG ES e lo hi w' v X := h.block fun k _ _ hk => hb.block k hk
theorem OwnG.al (h : OwnG ES e lo hi w v X) (o : Obj) : OwnG ES e lo hi (w.alloc o) v X := h.below ((Below.refl _ _).al o)
theorem OwnG.upd {lo' hi' : Nat} {w' : World} (h : OwnG ES e lo hi w v X) (hb : Upd lo' hi' w w') (hd : hi ≤ lo' ∨ hi' ≤ lo) : OwnG ES e lo hi w' v X := h.block fun k h1 h2 hk => hb.block k (by omega) hk
theorem OwnG.grown {r : Option Nat} {w' : World} (h : OwnG ES e lo hi w v X) (hg : w.grownBy w' r) (hd : ∀ k, r = some k → k < lo ∨ hi ≤ k) : OwnG ES e lo hi w' v X :=
  h.block fun k h1 h2 hk => hg.block k hk (fun e => by have := hd k e.symm; omega)
theorem OwnG.same {w' : World} (h : OwnG ES e lo hi w v X) (hs : Same lo hi w w') : OwnG ES e lo hi w' v X := h.block fun k h1 h2 _ => hs.2 k h1 h2
theorem OwnG.wide {lo' hi' : Nat} (h : OwnG ES e lo hi w v X) (h1 : lo' ≤ lo) (h2 : hi ≤ hi') : OwnG ES e lo' hi' w v X := by
  obtain ⟨vs, k1, k2, k3, k4, k5⟩ := h
  exact ⟨vs, k1, owns_base k2 h1, fun k hk => Nat.lt_of_lt_of_le (k3 k hk) h2, fun i hi' => (k4 i hi').wide h1 h2, k5⟩
theorem OwnG.tight (h : OwnG ES e lo hi w v X) : OwnG ES e lo w.heap.size w v X := by
  obtain ⟨vs, k1, k2, k3, k4, k5⟩ := h
  exact ⟨vs, k1, k2, fun k hk => (k2.lt k hk).2, fun i hi' => ⟨(k4 i hi').1, fun k hk => (World.ownsRow.lt (k4 i hi').1 k hk).2⟩, k5⟩
theorem OwnG.made {g : Nat} {w : World} (hg : g = w.heap.size) (hB : lo ≤ w.heap.size) : OwnG ES e lo (w.heap.size + 1) (w.alloc (.cells #[] ES)) (.slice (some ⟨g, 0, none⟩) 0 0) [] := by
  subst hg
  refine ⟨[], rfl, World.ownsRow_made w #[] 0 hB (by decide) rfl, fun k hk => ?_, fun i hi => by simp at hi, fun i j hi => by simp at hi, fun i b hi => by simp at hi⟩
  simp only [Value.ownBlock, Option.some.injEq] at hk
  omega
/-- the header's own block -/
theorem OwnG.shape (h : OwnG ES e lo hi w v X) (hne : X ≠ []) : ∃ g n cap, v = .slice (some ⟨g, 0, none⟩) n cap ∧ n = X.length ∧ n ≤ cap ∧ cap ≤ 9223372036854775807 ∧ lo ≤ g ∧ g < hi ∧ g < w.heap.size := by
  obtain ⟨vs, k1, k2, k3, k4, k5⟩ := h
  have hlt := k2.lt
  rcases k2.2 with ⟨_, hn⟩ | ⟨g, cap, cur, rfl, hg, hh, hn, hm, _⟩
  · exact absurd (List.eq_nil_of_length_eq_zero hn) hne
  · exact ⟨g, _, cap, rfl, rfl, hn, by unfold maxLen at hm; omega, hg, k3 g rfl, (hlt g rfl).2⟩
/-- a row, and the way back behind a change of it -/
theorem OwnG.get {g n cap : Nat} (h : OwnG ES e lo hi w (.slice (some ⟨g, 0, none⟩) n cap) X) (i : Nat) (hi' : i < X.length) :
    ∃ u, w.cell? ⟨g, i, none⟩ = some u ∧ w.frozen? ⟨g, i, none⟩ = false ∧ OwnIR e lo hi w u (X.getD i []) ∧ u.ownBlock ≠ some g ∧
      ∀ w1 v1 ys, OwnI e lo w1 v1 ys → w.grownBy w1 u.ownBlock → (v1.ownBlock = u.ownBlock ∨ ∃ b, v1.ownBlock = some b ∧ w.heap.size ≤ b) → lo ≤ g →
        OwnG ES e lo w1.heap.size (w1.setCell ⟨g, i, none⟩ v1) (.slice (some ⟨g, 0, none⟩) n cap) (X.set i ys) := by
  obtain ⟨vs, k1, k2, k3, k4, k5, k6⟩ := h
  obtain rfl : n = X.length := by
    rcases k2.2 with ⟨h0, _⟩ | ⟨g', cap', cur, he, _⟩
    · cases h0
    · cases he; rfl
  have hcell := World.ownsRow.cellAt k2 i (show i < X.length * 1 by omega)
  have hvi : i < vs.length := by omega
  have hge : vs.getD i undef = vs[i] := by simp [List.getD, hvi]
  refine ⟨vs.getD i undef, by rw [hcell, List.getElem?_eq_getElem hvi, hge], World.ownsRow.frozenAt k2 i, k4 i hi', fun hb => k6 i g hi' hb rfl, fun w1 v1 ys ho hg hat hlo => ?_⟩
  have hown1 : w1.ownsRow lo ES 1 (.slice (some ⟨g, 0, none⟩) X.length cap) X.length vs := owns_block k2 fun k hk => by
    simp only [Value.ownBlock, Option.some.injEq] at hk
    subst hk
    exact hg.block _ (k2.lt _ rfl).2 (fun hb => k6 i _ hi' hb.symm rfl)
  have hst := World.ownsRow.stored hown1 i v1
  have hgw := (k2.lt g rfl).2
  have hset : ∀ j, j < X.length → (vs.set i v1).getD j undef = if j = i then v1 else vs.getD j undef := fun j hj => by
    by_cases hji : j = i
    · subst hji; rw [if_pos rfl]; simp [List.getD, hvi]
    · rw [if_neg hji]; simp [List.getD, Ne.symm hji]
  have hX : ∀ j, (X.set i ys).getD j [] = if j = i then ys else X.getD j [] := fun j => by
    by_cases hji : j = i
    · subst hji; rw [if_pos rfl]; simp [List.getD, hi']
    · rw [if_neg hji]; simp [List.getD, Ne.symm hji]
  have hv1g : v1.ownBlock ≠ some g := fun hb => by
    rcases hat with hat | ⟨b, hb', hle⟩
    · exact k6 i g hi' (hat ▸ hb) rfl
    · rw [hb'] at hb; cases hb; omega
  refine ⟨vs.set i v1, by simp [k1], by simp only [List.length_set]; exact hst.1, fun k hk => ?_, fun j hj => ?_, fun j l hj hl hne b hb => ?_, fun j b hj hb => ?_⟩
  · have := (World.ownsRow.lt hown1 k hk).2; exact this
  · rw [List.length_set] at hj
    rw [hset j hj, hX j]
    by_cases hji : j = i
    · rw [if_pos hji, if_pos hji]
      refine ⟨owns_block ho fun k hk => heap_setCell_other w1 _ k v1 (fun e => hv1g (by rw [hk, e])), fun k hk => ?_⟩
      exact (World.ownsRow.lt ho k hk).2
    · rw [if_neg hji, if_neg hji]
      have hr := k4 j hj
      refine ⟨owns_block hr.1 fun k hk => ?_, fun k hk => Nat.lt_of_lt_of_le (World.ownsRow.lt hr.1 k hk).2 hg.size⟩
      rw [heap_setCell_other w1 _ k v1 (fun e => k6 j k hj hk (by rw [e]; rfl))]
      exact hg.block k (World.ownsRow.lt hr.1 k hk).2 (fun hb => k5 j i hj hi' hji k hk hb.symm)
  · rw [List.length_set] at hj hl
    rw [hset j hj] at hb
    rw [hset l hl]
    by_cases hji : j = i
    · rw [if_pos hji] at hb
      rw [if_neg (fun e => hne (hji.trans e.symm))]
      intro hl2
      rcases hat with hat | ⟨b', hb', hle⟩
      · rw [hat] at hb
        exact k5 i l hi' hl (fun e => hne (hji.trans e)) b hb hl2
      · rw [hb'] at hb; cases hb
        have := (World.ownsRow.lt (k4 l hl).1 b hl2).2
        omega
    · rw [if_neg hji] at hb
      by_cases hli : l = i
      · rw [if_pos hli]
        intro hl2
        rcases hat with hat | ⟨b', hb', hle⟩
        · rw [hat] at hl2
          exact k5 j i hj hi' hji b hb hl2
        · rw [hb'] at hl2; cases hl2
          have := (World.ownsRow.lt (k4 j hj).1 b hb).2
          omega
      · rw [if_neg hli]; exact k5 j l hj hl hne b hb
  · rw [List.length_set] at hj
    rw [hset j hj] at hb
    by_cases hji : j = i
    · rw [if_pos hji] at hb
      intro hg2
      simp only [Value.ownBlock, Option.some.injEq] at hg2
      exact hv1g (by rw [hb, hg2])
    · rw [if_neg hji] at hb; exact k6 j b hj hb
/-- a new row is appended -/
theorem push_g {P : Program} {ops : Array Oper} {rest : List Oper} {o : Oper} {a : Act} {Q : Exit → Act → World → Prop} (hgd : o.guard = none) (s x : Operand) (t : TypeId)
    (ho : o.op = .call { callee := .builtin .append, args := #[s, x], argTypes := #[t, t] })
    (ht : P.underlying t = some (.slice ES)) (hinfo : (P.info? ES).map (fun i => (i.zero, i.size, i.bytes)) = some (some (.slice none 0 0), 1, 24))
    (v : Value) (X : List (List Int)) (u : Value) (ys : List Int) (w0 : World) (hs : a.eval s = v) (hx : a.eval x = .slice (some ⟨w0.heap.size, 0, none⟩) 1 1)
    (hown : OwnG ES e lo hi w0 v X) (hu : OwnI e lo w0 u ys) (hfar : ∀ b, u.ownBlock = some b → hi ≤ b) (hone : u.oneCell' = true) (hlen : X.length < 1000000000) (hB : lo ≤ w0.heap.size)
    (h : ∀ v' w', OwnG ES e lo w'.heap.size w' v' (X ++ [ys]) → w0.grownBy w' v.ownBlock → (v'.ownBlock = v.ownBlock ∨ v'.ownBlock = some (w0.heap.size + 1)) → w0.heap.size < w'.heap.size → wpList P ops Q rest (a.put o.dst v') w') :
    wpList P ops Q (o :: rest) a (w0.alloc (.cells #[u] ES)) := by
  obtain ⟨i0, hi0, hz0, hz1, hz2⟩ := info_parts hinfo
  obtain ⟨vs, k1, k2, k3, k4, k5, k6⟩ := hown
  refine wpList_append_own_at (w := _) hgd s x t ho lo ES i0 (.slice none 0 0) 1 24 ht hi0 hz0 hz1 hz2 rfl (by decide) v X.length vs hs (World.ownsRow.alloc k2 _) ⟨w0.heap.size, 0, none⟩ 1 1 [u] hx rfl (cell_one_new _ _ _) ?_ ?_ ?_ ?_ ?_
  · intro q hq; simp at hq; subst hq; exact hone
  · unfold maxLen; omega
  · omega
  · simp; omega
  · intro v' w' ho' hg _ hat
    have hgg := grownBy_trans (World.grownBy_alloc w0 (.cells #[u] ES) v.ownBlock) hg
    have hat' : v'.ownBlock = v.ownBlock ∨ v'.ownBlock = some (w0.heap.size + 1) := by simpa using hat
    have hsz : w0.heap.size < w'.heap.size := by have := hg.size; simp at this; omega
    refine h v' w' ?_ hgg hat' hsz
    have hget : ∀ j, j < X.length + 1 → (vs ++ [u]).getD j undef = if j = X.length then u else vs.getD j undef := fun j hj => by
      by_cases hjx : j = X.length
      · subst hjx; rw [if_pos rfl, ← k1]; simp [List.getD]
      · rw [if_neg hjx, List.getD_eq_getElem?_getD, List.getElem?_append_left (by omega), List.getD_eq_getElem?_getD]
    have hX : ∀ j, j < X.length + 1 → (X ++ [ys]).getD j [] = if j = X.length then ys else X.getD j [] := fun j hj => by
      by_cases hjx : j = X.length
      · subst hjx; rw [if_pos rfl]; simp [List.getD]
      · rw [if_neg hjx, List.getD_eq_getElem?_getD, List.getElem?_append_left (by omega), List.getD_eq_getElem?_getD]
    have hv' : ∀ b, v'.ownBlock = some b → v.ownBlock = some b ∨ b = w0.heap.size + 1 := fun b hb => by
      rcases hat' with h1 | h1
      · exact Or.inl (h1 ▸ hb)
      · rw [h1] at hb; cases hb; exact Or.inr rfl
    have hvu : ∀ b, u.ownBlock = some b → v.ownBlock ≠ some b := fun b hb hv => by
      have h1 := hfar b hb
      have h2 := k3 b hv
      omega
    refine ⟨vs ++ [u], by simp [k1], by rw [List.length_append]; exact ho', fun k hk => (World.ownsRow.lt ho' k hk).2, fun j hj => ?_, fun j l hj hl hne b hb => ?_, fun j b hj hb => ?_⟩
    · have hj' : j < X.length + 1 := by simpa using hj
      rw [hget j hj', hX j hj']
      by_cases hjx : j = X.length
      · rw [if_pos hjx, if_pos hjx]
        exact ⟨owns_block hu fun k hk => hgg.block k (World.ownsRow.lt hu k hk).2 (fun hb => hvu k hk hb.symm), fun k hk => Nat.lt_of_lt_of_le (World.ownsRow.lt hu k hk).2 hgg.size⟩
      · rw [if_neg hjx, if_neg hjx]
        have hr := k4 j (by omega)
        exact ⟨owns_block hr.1 fun k hk => hgg.block k (World.ownsRow.lt hr.1 k hk).2 (fun hb => k6 j k (by omega) hk hb.symm), fun k hk => Nat.lt_of_lt_of_le (World.ownsRow.lt hr.1 k hk).2 hgg.size⟩
    · have hj' : j < X.length + 1 := by simpa using hj
      have hl' : l < X.length + 1 := by simpa using hl
      rw [hget j hj'] at hb
      rw [hget l hl']
      by_cases hjx : j = X.length
      · rw [if_pos hjx] at hb
        rw [if_neg (by omega)]
        intro hl2
        have h1 := (k4 l (by omega)).2 b hl2
        have h2 := hfar b hb
        omega
      · rw [if_neg hjx] at hb
        by_cases hlx : l = X.length
        · rw [if_pos hlx]
          intro hl2
          have h1 := (k4 j (by omega)).2 b hb
          have h2 := hfar b hl2
          omega
        · rw [if_neg hlx]; exact k5 j l (by omega) (by omega) hne b hb
    · have hj' : j < X.length + 1 := by simpa using hj
      rw [hget j hj'] at hb
      intro hv
      by_cases hjx : j = X.length
      · rw [if_pos hjx] at hb
        have h2 := (World.ownsRow.lt hu b hb).2
        rcases hv' b hv with h1 | h1
        · exact hvu b hb h1
        · omega
      · rw [if_neg hjx] at hb
        have h2 := (World.ownsRow.lt (k4 j (by omega)).1 b hb).2
        rcases hv' b hv with h1 | h1
        · exact k6 j b (by omega) hb h1
        · omega
end
end Go.RowKit
end
section
set_option linter.unusedVariables false
namespace Go.RowKit
open Go.Maps (Keyed)
/-- block b is a map of int64s, of at most n entries, that reads as f -/
def OwnM (P : Program) (K E : TypeId) (lo hi : Nat) (w : World) (b n : Nat) (f : Int → Option Int) : Prop :=
  lo ≤ b ∧ b < hi ∧ ∃ D : DataW Unit, w.ownsMap P K (plainElem P E) b n D ∧ Maps.IsMap D ∧
    ∀ k : Int, Maps.has D (.int .i64 k) = (f k).isSome ∧ ∀ c, f k = some c → ∀ z, D.atKey (.int .i64 k) z = .lit (.int .i64 c)
section
variable {P : Program} {K E : TypeId} {lo hi : Nat} {w : World} {b n : Nat} {f : Int → Option Int}
theorem OwnM.lt (h : OwnM P K E lo hi w b n f) : b < w.heap.size := by
  obtain ⟨_, _, D, hD, _⟩ := h
  exact hD.lt
theorem OwnM.below {w' : World} (h : OwnM P K E lo hi w b n f) (hb : Below w.heap.size w w') : OwnM P K E lo hi w' b n f := by
  obtain ⟨h1, h2, D, hD, hr⟩ := h
  obtain ⟨es, clock, hh, r⟩ := hD
  refine ⟨h1, h2, D, ⟨es, clock, ?_, r⟩, hr⟩
  rw [hb.block b (Array.getElem?_eq_some_iff.1 hh).1]; exact hh
theorem OwnM.upd {lo' hi' : Nat} {w' : World} (h : OwnM P K E lo hi w b n f) (hb : Upd lo' hi' w w') (hd : hi ≤ lo' ∨ hi' ≤ lo) : OwnM P K E lo hi w' b n f := by
  obtain ⟨h1, h2, D, hD, hr⟩ := h
  obtain ⟨es, clock, hh, r⟩ := hD
  refine ⟨h1, h2, D, ⟨es, clock, ?_, r⟩, hr⟩
  rw [hb.block b (by omega) (Array.getElem?_eq_some_iff.1 hh).1]; exact hh
theorem OwnM.al (h : OwnM P K E lo hi w b n f) (o : Obj) : OwnM P K E lo hi (w.alloc o) b n f := by
  obtain ⟨h1, h2, D, hD, hr⟩ := h
  exact ⟨h1, h2, D, hD.alloc o, hr⟩
theorem OwnM.drN (h : OwnM P K E lo hi w b n f) (k : Nat) : OwnM P K E lo hi (w.drewN k) b n f := h
theorem OwnM.wide {lo' hi' : Nat} (h : OwnM P K E lo hi w b n f) (h1 : lo' ≤ lo) (h2 : hi ≤ hi') : OwnM P K E lo' hi' w b n f := ⟨Nat.le_trans h1 h.1, Nat.lt_of_lt_of_le h.2.1 h2, h.2.2⟩
theorem OwnM.tight (h : OwnM P K E lo hi w b n f) : OwnM P K E lo w.heap.size w b n f := ⟨h.1, h.lt, h.2.2⟩
theorem OwnM.more {n' : Nat} (h : OwnM P K E lo hi w b n f) (hn : n ≤ n') : OwnM P K E lo hi w b n' f := by
  obtain ⟨h1, h2, D, hD, hr⟩ := h
  exact ⟨h1, h2, D, hD.mono hn, hr⟩
theorem OwnM.made {g : Nat} (hg : g = w.heap.size) (hB : lo ≤ w.heap.size) : OwnM P K E lo (w.heap.size + 1) (w.alloc (.map #[] 0)) g 0 (fun _ => none) := by
  subst hg
  exact ⟨hB, Nat.lt_succ_self _, .map [], World.ownsMap_made w P K _, Maps.isMap_empty, fun k => ⟨rfl, fun c hc => by cases hc⟩⟩
end
end Go.RowKit
end
section
set_option linter.unusedVariables false
namespace Go.RowKit
open Go.Maps (Keyed)
/-- a slice's header, as a datum -/
def hdR : Value → Option (DataW Unit × List MemPlace)
  | .slice (some a) n c => if a.spot.isNone then some (.slice [.lit (.int .i64 a.block), .lit (.int .i64 a.off), .lit (.int .i64 n), .lit (.int .i64 c)] [], []) else none
  | .slice none 0 0 => some (.nil, [])
  | _ => none
theorem hdR_some (g o n c : Nat) : hdR (.slice (some ⟨g, o, none⟩) n c) = some (.slice [.lit (.int .i64 g), .lit (.int .i64 o), .lit (.int .i64 n), .lit (.int .i64 c)] [], []) := rfl
theorem hdR_form {v : Value} {z : DataW Unit × List MemPlace} (h : hdR v = some z) : (v = .slice none 0 0 ∧ z = (.nil, [])) ∨ ∃ g o n c : Nat, v = .slice (some ⟨g, o, none⟩) n c ∧ z = (.slice [.lit (.int .i64 g), .lit (.int .i64 o), .lit (.int .i64 n), .lit (.int .i64 c)] [], []) := by
  unfold hdR at h
  split at h
  · rename_i a n c
    obtain ⟨g, o, s⟩ := a
    cases s with
    | none => right; exact ⟨g, o, n, c, rfl, by simpa using h.symm⟩
    | some x => simp at h
  · left; exact ⟨rfl, by simpa using h.symm⟩
  · cases h
theorem hdR_inj {v v' : Value} {z z' : DataW Unit × List MemPlace} (h : hdR v = some z) (h' : hdR v' = some z') (e : z.1 = z'.1) : v = v' := by
  rcases hdR_form h with ⟨rfl, rfl⟩ | ⟨g, o, n, c, rfl, rfl⟩ <;> rcases hdR_form h' with ⟨rfl, rfl⟩ | ⟨g', o', n', c', rfl, rfl⟩
  · rfl
  · cases e
  · cases e
  · simp only [DataW.slice.injEq, List.cons.injEq, DataW.lit.injEq, Lit.int.injEq, true_and, and_true] at e
    obtain ⟨h1, h2, h3, h4⟩ := e
    have e1 : g = g' := by omega
    have e2 : o = o' := by omega
    have e3 : n = n' := by omega
    have e4 : c = c' := by omega
    rw [e1, e2, e3, e4]
theorem hdR_own {E : TypeId} {B : Nat} {w : World} {v : Value} {xs : List Int} (h : OwnI E B w v xs) : ∃ d, hdR v = some (d, []) := by
  rcases h.shape with ⟨rfl, _⟩ | ⟨g, cap, rfl, _⟩
  · exact ⟨_, rfl⟩
  · exact ⟨_, hdR_some g 0 _ cap⟩
/-- block b is a map of at most n entries that reads as F (no entry: no number); its rows lie in blocks of S, no two in one -/
def OwnMG (P : Program) (K e : TypeId) (S : Nat → Prop) (w : World) (b n : Nat) (F : Int → List Int) : Prop :=
  ∃ (D : DataW Unit) (hd : Int → Value), w.ownsMap P K hdR b n D ∧ Maps.IsMap D ∧ (∀ k : Int, hdR (hd k) = some (D.atKey (.int .i64 k) .nil, [])) ∧ (∀ k, OwnI e 0 w (hd k) (F k)) ∧
    (∀ k g, (hd k).ownBlock = some g → S g) ∧ (∀ k k' g, k ≠ k' → (hd k).ownBlock = some g → (hd k').ownBlock ≠ some g) ∧ ¬ S b
section
variable {P : Program} {K e : TypeId} {S : Nat → Prop} {w : World} {b n : Nat} {F : Int → List Int}
theorem OwnMG.made (hb : w.heap[b]? = some (.map #[] 0)) (hS : ¬ S b) : OwnMG P K e S w b 0 (fun _ => []) := by
  refine ⟨.map [], fun _ => .slice none 0 0, ?_, Maps.isMap_empty, fun k => rfl, fun k => World.ownsRow_nil w 0 e 1, fun k g hg => by simp [Value.ownBlock] at hg, fun k k' g _ hg => by simp [Value.ownBlock] at hg, hS⟩
  obtain ⟨es, clock, h1, h2, h3, h4⟩ := World.ownsMap_made (w := w) P K hdR
  have h0 : (w.alloc (.map #[] 0)).heap[w.heap.size]? = some (.map #[] 0) := (MapKept.heap_alloc w _).1
  rw [h0] at h1
  simp only [Option.some.injEq, Obj.map.injEq] at h1
  obtain ⟨rfl, rfl⟩ := h1
  exact ⟨_, _, hb, h2, h3, h4⟩
theorem OwnMG.lt (h : OwnMG P K e S w b n F) : b < w.heap.size := by
  obtain ⟨D, hd, h1, _⟩ := h
  exact h1.lt
theorem OwnMG.block {w' : World} (h : OwnMG P K e S w b n F) (hb : w'.heap[b]? = w.heap[b]?) (hk : ∀ k, S k → k < w.heap.size → w'.heap[k]? = w.heap[k]?) : OwnMG P K e S w' b n F := by
  obtain ⟨D, hd, ⟨es, clock, hh, r⟩, h2, h3, h4, h5, h6⟩ := h
  exact ⟨D, hd, ⟨es, clock, hb.trans hh, r⟩, h2, h3, fun k => owns_block (h4 k) fun g hg => hk g (h5 k g hg) (World.ownsRow.lt (h4 k) g hg).2, h5, h6⟩
theorem OwnMG.below {w' : World} (h : OwnMG P K e S w b n F) (hb : Below w.heap.size w w') : OwnMG P K e S w' b n F := h.block (hb.block b h.lt) fun k _ hk => hb.block k hk
theorem OwnMG.al (h : OwnMG P K e S w b n F) (o : Obj) : OwnMG P K e S (w.alloc o) b n F := h.below ((Below.refl _ _).al o)
theorem OwnMG.more {n' : Nat} (h : OwnMG P K e S w b n F) (hn : n ≤ n') : OwnMG P K e S w b n' F := by
  obtain ⟨D, hd, h1, r⟩ := h
  exact ⟨D, hd, h1.mono hn, r⟩
/-- a row of the map, and the way back behind a change of it -/
theorem OwnMG.get {t E : TypeId} (h : OwnMG P K e S w b n F) (ht : P.underlying t = some (.map K E)) (hK : P.underlying K = some (.int .i64)) (hz : (zeroValue E).run P w = .ok (.slice none 0 0) w) (hn : n < 1000000000)
    (k : Int) (hk : -9223372036854775808 ≤ k ∧ k ≤ 9223372036854775807) :
    ∃ v, (Instr.lookup t (.map (some b)) (.int .i64 k) false).run P w = .ok v w ∧ OwnI e 0 w v (F k) ∧ (∀ g, v.ownBlock = some g → S g) ∧
      ∀ w1 v' ys, w.grownBy w1 v.ownBlock → OwnI e 0 w1 v' ys → (∀ g, v'.ownBlock = some g → S g) → (v'.ownBlock = v.ownBlock ∨ ∃ g, v'.ownBlock = some g ∧ w.heap.size ≤ g) →
        ∃ w2, (Instr.mapUpdate t (.map (some b)) (.int .i64 k) v').run P w1 = .ok () w2 ∧ OwnMG P K e S w2 b (n + 1) (fun x => if x = k then ys else F x) ∧ w1.grownBy w2 (some b) := by
  obtain ⟨D, hd, h1, h2, h3, h4, h5, h6, h7⟩ := h
  have hkey : keyOf P K (.int .i64 k) = some (.int .i64 k) := Maps.keyOf_int_mk hK (WalkArith.wf_i64 hk)
  have hkl : WideAt.IsKeyLit (.int .i64 k) := (Maps.int_keyed hK).key hkey
  obtain ⟨v, ps, hrun, hv⟩ := h1.lookup (Maps.int_keyed hK) ht hz (zd := .nil) (zp := []) rfl hkey
  have hvk : v = hd k := hdR_inj hv (h3 k) rfl
  subst hvk
  refine ⟨hd k, hrun, h4 k, h5 k, fun w1 v' ys hg ho hSv hloc => ?_⟩
  have hne : some b ≠ (hd k).ownBlock := fun e => h7 (h5 k b e.symm)
  obtain ⟨d', hd'⟩ := hdR_own ho
  obtain ⟨w2, hrun2, hm2, hg2⟩ := (h1.kept hg hne).update (Maps.int_keyed hK) ht (by unfold maxLen; omega) hkey hd'
  refine ⟨w2, hrun2, ⟨_, fun x => if x = k then v' else hd x, hm2, h2.put _ _, fun x => ?_, fun x => ?_, fun x g hgx => ?_, fun x x' g hxx hgx => ?_, h7⟩, hg2⟩
  · by_cases hx : x = k
    · subst hx
      simp only [if_true]
      rw [Maps.atKey_put_same h2 hkl]; exact hd'
    · simp only [if_neg hx]
      rw [Maps.atKey_put_other (fun e => hx (by cases e; rfl))]; exact h3 x
  · by_cases hx : x = k
    · subst hx
      simp only [if_true]
      exact owns_block ho fun g hg' => hg2.block g (World.ownsRow.lt ho g hg').2 (fun e => h7 (by cases e; exact hSv _ hg'))
    · simp only [if_neg hx]
      refine owns_block (h4 x) fun g hg' => ?_
      have hgl := (World.ownsRow.lt (h4 x) g hg').2
      rw [hg2.block g (Nat.lt_of_lt_of_le hgl hg.size) (fun e => h7 (by cases e; exact h5 x _ hg'))]
      exact hg.block g hgl (fun e => h6 x k g hx hg' e.symm)
  · by_cases hx : x = k
    · simp only [if_pos hx] at hgx; exact hSv g hgx
    · simp only [if_neg hx] at hgx; exact h5 x g hgx
  · by_cases hx : x = k
    · simp only [if_pos hx] at hgx
      have hx' : ¬ x' = k := fun e => hxx (hx.trans e.symm)
      simp only [if_neg hx']
      intro hg'
      rcases hloc with hl | ⟨g0, hl, hle⟩
      · exact h6 k x' g (fun e => hx' e.symm) (hl ▸ hgx) hg'
      · rw [hl] at hgx; cases hgx
        have := (World.ownsRow.lt (h4 x') g hg').2
        omega
    · simp only [if_neg hx] at hgx
      by_cases hx' : x' = k
      · simp only [if_pos hx']
        intro hg'
        rcases hloc with hl | ⟨g0, hl, hle⟩
        · exact h6 x k g hx hgx (hl ▸ hg')
        · rw [hl] at hg'; cases hg'
          have := (World.ownsRow.lt (h4 x) g hgx).2
          omega
      · simp only [if_neg hx']; exact h6 x x' g hxx hgx
end
end Go.RowKit
end
section
set_option linter.unusedVariables false
namespace Go.RowKit
def RdG (w : World) (v : Value) (X : List (List Int)) : Prop :=
  ∃ a cap, v = .slice a X.length cap ∧ X.length ≤ 9223372036854775807 ∧ ∀ k, k < X.length → ∃ b off u, a = some ⟨b, off, none⟩ ∧ w.cell? ⟨b, off + k, none⟩ = some u ∧ RdI w u (X.getD k [])
theorem RdG.below {a b : World} {v : Value} {X : List (List Int)} (h : RdG a v X) (hb : Below a.heap.size a b) : RdG b v X := by
  obtain ⟨ad, cap, hv, hl, hc⟩ := h
  refine ⟨ad, cap, hv, hl, fun k hk => ?_⟩
  obtain ⟨bl, off, u, ha, hcell, hu⟩ := hc k hk
  exact ⟨bl, off, u, ha, by rw [hb.cell (p := ⟨bl, off + k, none⟩) (World.block_lt_of_cell? a _ hcell)]; exact hcell, hu.below hb⟩
theorem OwnG.rd {ES e : TypeId} {lo hi : Nat} {w : World} {v : Value} {X : List (List Int)} (h : OwnG ES e lo hi w v X) : RdG w v X := by
  by_cases hne : X = []
  · subst hne
    obtain ⟨vs, k1, k2, _⟩ := h
    rcases k2.2 with ⟨rfl, _⟩ | ⟨g, cap, cur, rfl, _⟩
    · exact ⟨none, 0, rfl, by simp, fun k hk => by simp at hk⟩
    · exact ⟨_, cap, rfl, by simp, fun k hk => by simp at hk⟩
  · obtain ⟨g, n, cap, rfl, rfl, hn, hcm, h1, h2, h3⟩ := h.shape hne
    refine ⟨_, cap, rfl, by omega, fun k hk => ?_⟩
    obtain ⟨u, hu, _, hur, _⟩ := h.get k hk
    exact ⟨g, 0, u, rfl, by rw [Nat.zero_add]; exact hu, hur.rd⟩
end Go.RowKit
end
section
set_option linter.unusedVariables false
namespace Go.RowKit
theorem OwnI.some_of {B : Nat} {E : TypeId} {a : World} {v : Value} {xs : List Int} (h : OwnI E B a v xs) (hne : xs ≠ []) : ∃ g cap, v = .slice (some ⟨g, 0, none⟩) xs.length cap ∧ xs.length ≤ cap := by
  rcases h.2 with ⟨_, hn⟩ | ⟨g, cap, cur, rfl, hg, hh, hn, _⟩
  · exact absurd (List.eq_nil_of_length_eq_zero hn) hne
  · exact ⟨g, cap, rfl, hn⟩
theorem push_ints {P : Program} {ops : Array Oper} {rest : List Oper} {o : Oper} {a : Act} {Q : Exit → Act → World → Prop} (hgd : o.guard = none) (s x : Operand) (t e : TypeId)
    (ho : o.op = .call { callee := .builtin .append, args := #[s, x], argTypes := #[t, t] })
    (ht : P.underlying t = some (.slice e)) (hinfo : (P.info? e).map (fun i => (i.zero, i.size, i.bytes)) = some (some (.int .i64 0), 1, 8))
    (B : Nat) (v u : Value) (xs ys : List Int) (w0 : World) (hs : a.eval s = v) (hx : a.eval x = u)
    (hown : OwnI e B w0 v xs) (hv : ∃ ad n cap, v = .slice (some ad) n cap) (hr : RdI w0 u ys) (hlen : xs.length + ys.length < 1000000000) (hB : B ≤ w0.heap.size)
    (h : ∀ v' w', OwnI e B w' v' (xs ++ ys) → w0.grownBy w' v.ownBlock → (v'.ownBlock = v.ownBlock ∨ v'.ownBlock = some w0.heap.size) → w0.heap.size ≤ w'.heap.size → wpList P ops Q rest (a.put o.dst v') w') :
    wpList P ops Q (o :: rest) a w0 := by
  obtain ⟨i0, hi, hz0, hz1, hz2⟩ := info_parts hinfo
  have e1 : (xs ++ ys).length = xs.length + ys.length := by simp
  have e2 : ints (xs ++ ys) = ints xs ++ ints ys := by simp [ints]
  obtain ⟨au, cu, rfl, hul, huc⟩ := hr
  cases au with
  | none =>
    have hys : ys = [] := by
      cases ys with
      | nil => rfl
      | cons y ys => obtain ⟨b, off, hb, _⟩ := huc 0 (by simp); cases hb
    subst hys
    obtain ⟨ad, n0, cap0, hvv⟩ := hv
    rcases hown.2 with ⟨hnil, _⟩ | ⟨g, cap, cur, hve, hg, hh, hn, hm, hcs, hcells⟩
    · rw [hvv] at hnil; cases hnil
    · subst hve
      refine wpList_plain hgd fun K hK => ?_
      have hrun := run_append_room_src (P := P) w0 t t o.type e i0 ht hi g 0 xs.length cap (.slice none ([] : List Int).length cu) 0 [] (Src.ofNil w0 ht cu) (by omega) (fun j hj => by simp at hj) (fun j hj => by simp at hj)
      unfold Oper.wp execOp
      simp only [ho, resolve, invoke, builtin, Sem.run_bind, Sem.run_pure, Result.andThen_ok, List.map_toArray, List.map_cons, List.map_nil, hs, hx, hrun]
      exact hK _ _ (h _ _ (by rw [List.append_nil]; exact hown) (grownBy_refl _ _) (Or.inl rfl) (Nat.le_refl _))
  | some ad =>
    refine wpList_append_own_at _ hgd s x t ho B e i0 (.int .i64 0) 1 8 ht hi hz0 hz1 hz2 rfl (by decide) v xs.length (ints xs) hs hown ad ys.length cu (ints ys) hx (by simp [ints]) ?_ ?_ ?_ ?_ hB ?_
    · intro j u hu
      have hj : j < ys.length := by have := (List.getElem?_eq_some_iff.1 hu).1; simpa [ints] using this
      obtain ⟨b, off, hb, hc⟩ := huc j hj
      cases hb
      have hadd : (⟨b, off, none⟩ : Addr).add j = ⟨b, off + j, none⟩ := by unfold Addr.add; split <;> simp_all
      rw [hadd, hc]
      simp [ints, hj] at hu
      rw [← hu]
      simp [List.getD, hj]
    · intro u hu
      obtain ⟨y, _, rfl⟩ := List.mem_map.1 hu
      rfl
    · unfold maxLen; omega
    · omega
    · intro v' w' ho' hg _ hat
      refine h v' w' ?_ hg hat hg.size
      unfold OwnI
      rw [e1, e2]
      exact ho'
end Go.RowKit
end
