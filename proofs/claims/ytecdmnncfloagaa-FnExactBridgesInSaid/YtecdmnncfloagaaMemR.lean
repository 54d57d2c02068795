/- Lemmas on slices of structs: rows of several cells. No program. -/
import Derived.Test.YtecdmnncfloagaaMem
import Derived.Deep.AppendLies
namespace Go.RowKit
section
variable {α : Type} {sz : Nat} {row : α → List Value}
/-- a slice of structs that is only read; row x: the cells of x -/
def RdRow (sz : Nat) (row : α → List Value) (w : World) (v : Value) (xs : List α) : Prop :=
  ∃ a cap, v = .slice a xs.length cap ∧ xs.length ≤ 9223372036854775807 ∧ ∀ k (hk : k < xs.length), ∃ b off, a = some ⟨b, off, none⟩ ∧ ∀ c u, (row xs[k])[c]? = some u → w.cell? ⟨b, off + k * sz + c, none⟩ = some u
theorem RdRow.below {a b : World} {v : Value} {xs : List α} (h : RdRow sz row a v xs) (hb : Below a.heap.size a b) : RdRow sz row b v xs := by
  obtain ⟨ad, cap, hv, hl, hc⟩ := h
  refine ⟨ad, cap, hv, hl, fun k hk => ?_⟩
  obtain ⟨bl, off, ha, hcell⟩ := hc k hk
  exact ⟨bl, off, ha, fun c u hu => by rw [hb.cell (p := ⟨bl, off + k * sz + c, none⟩) (World.block_lt_of_cell? a _ (hcell c u hu))]; exact hcell c u hu⟩
/-- a row of structs of the call's own in a block from lo up to hi -/
def OwnRow (E : TypeId) (sz : Nat) (row : α → List Value) (lo hi : Nat) (w : World) (v : Value) (xs : List α) : Prop :=
  w.ownsRow lo E sz v xs.length (xs.flatMap row) ∧ ∀ k, v.ownBlock = some k → k < hi
theorem flat_get (hrow : ∀ x, (row x).length = sz) : ∀ (xs : List α) (k c : Nat) (hk : k < xs.length), c < sz → (xs.flatMap row)[k * sz + c]? = (row xs[k])[c]? := by
  intro xs
  induction xs with
  | nil => intro k c hk; simp at hk
  | cons x xs ih =>
    intro k c hk hc
    cases k with
    | zero => simp only [Nat.zero_mul, Nat.zero_add, List.flatMap_cons, List.getElem_cons_zero]; rw [List.getElem?_append_left (by rw [hrow]; exact hc)]
    | succ k =>
      have hk' : k < xs.length := by simpa using hk
      simp only [List.flatMap_cons, List.getElem_cons_succ]
      rw [List.getElem?_append_right (by rw [hrow, Nat.succ_mul]; omega), hrow]
      have e : (k + 1) * sz + c - sz = k * sz + c := by rw [Nat.succ_mul]; omega
      rw [e]
      exact ih k c hk' hc
theorem flat_len (hrow : ∀ x, (row x).length = sz) (xs : List α) : (xs.flatMap row).length = xs.length * sz := by
  induction xs with
  | nil => simp
  | cons x xs ih => simp [hrow, ih, Nat.succ_mul]; omega
theorem OwnRow.rd {E : TypeId} {lo hi : Nat} {a : World} {v : Value} {xs : List α} (hrow : ∀ x, (row x).length = sz) (h : OwnRow E sz row lo hi a v xs) : RdRow sz row a v xs := by
  have h' := h.1
  rcases h.1.2 with ⟨rfl, hn⟩ | ⟨g, cap, cur, rfl, hg, hh, hn, hm, _⟩
  · have hx : xs = [] := List.eq_nil_of_length_eq_zero hn
    subst hx
    exact ⟨none, 0, rfl, by simp, fun k hk => by simp at hk⟩
  · refine ⟨_, _, rfl, by unfold maxLen at hm; omega, fun k hk => ⟨g, 0, rfl, fun c u hu => ?_⟩⟩
    have hc : c < sz := by
      have := (List.getElem?_eq_some_iff.1 hu).1
      rw [hrow] at this; exact this
    have hlt : k * sz + c < xs.length * sz := by
      have h1 : (k + 1) * sz ≤ xs.length * sz := Nat.mul_le_mul_right _ hk
      rw [Nat.succ_mul] at h1; omega
    rw [Nat.zero_add, World.ownsRow.cellAt h' _ hlt, flat_get hrow xs k c hk hc]
    exact hu
theorem OwnRow.below {E : TypeId} {lo hi : Nat} {a b : World} {v : Value} {xs : List α} (h : OwnRow E sz row lo hi a v xs) (hb : Below a.heap.size a b) : OwnRow E sz row lo hi b v xs := ⟨owns_below h.1 hb, h.2⟩
theorem OwnRow.al {E : TypeId} {lo hi : Nat} {a : World} {v : Value} {xs : List α} (h : OwnRow E sz row lo hi a v xs) (o : Obj) : OwnRow E sz row lo hi (a.alloc o) v xs := ⟨World.ownsRow.alloc h.1 o, h.2⟩
theorem OwnRow.drN {E : TypeId} {lo hi : Nat} {a : World} {v : Value} {xs : List α} (h : OwnRow E sz row lo hi a v xs) (n : Nat) : OwnRow E sz row lo hi (a.drewN n) v xs := h
theorem OwnRow.wide {E : TypeId} {lo hi lo' hi' : Nat} {a : World} {v : Value} {xs : List α} (h : OwnRow E sz row lo hi a v xs) (h1 : lo' ≤ lo) (h2 : hi ≤ hi') : OwnRow E sz row lo' hi' a v xs := ⟨owns_base h.1 h1, fun k hk => Nat.lt_of_lt_of_le (h.2 k hk) h2⟩
theorem OwnRow.tight {E : TypeId} {lo hi : Nat} {a : World} {v : Value} {xs : List α} (h : OwnRow E sz row lo hi a v xs) : OwnRow E sz row lo a.heap.size a v xs := ⟨h.1, fun k hk => (World.ownsRow.lt h.1 k hk).2⟩
theorem OwnRow.upd {E : TypeId} {lo hi lo' hi' : Nat} {a b : World} {v : Value} {xs : List α} (h : OwnRow E sz row lo hi a v xs) (hb : Upd lo' hi' a b) (hd : hi ≤ lo' ∨ hi' ≤ lo) : OwnRow E sz row lo hi b v xs := by
  refine ⟨?_, h.2⟩
  obtain ⟨h1, h2⟩ := h.1
  refine ⟨h1, ?_⟩
  rcases h2 with h2 | ⟨g, cap, cur, hv, hg, hh, r⟩
  · exact Or.inl h2
  · refine Or.inr ⟨g, cap, cur, hv, hg, ?_, r⟩
    have hgs := (Array.getElem?_eq_some_iff.1 hh).1
    have hgh := h.2 g (by rw [hv]; rfl)
    rw [hb.block g (by omega) hgs]; exact hh
theorem OwnRow.made {E : TypeId} {lo g : Nat} {a : World} {xs : List α} (hx : xs = []) (hg : g = a.heap.size) (hB : lo ≤ a.heap.size) : OwnRow E sz row lo (a.heap.size + 1) (a.alloc (.cells #[] E)) (.slice (some ⟨g, 0, none⟩) 0 0) xs := by
  subst hx; subst hg
  refine ⟨by simpa using World.ownsRow_made (size := sz) a #[] 0 hB (by decide) (by simp), fun k hk => ?_⟩
  simp only [Value.ownBlock, Option.some.injEq] at hk
  omega
theorem OwnRow.nil {E : TypeId} {lo hi : Nat} {a : World} (v : Value) (hv : v = .slice none 0 0) : OwnRow E sz row lo hi a v [] := by subst hv; exact ⟨by simpa using World.ownsRow_nil a lo E sz, fun k hk => by simp [Value.ownBlock] at hk⟩
theorem push_row {P : Program} {ops : Array Oper} {rest : List Oper} {o : Oper} {a : Act} {Q : Exit → Act → World → Prop} (hgd : o.guard = none) (s x : Operand) (t e : TypeId)
    (ho : o.op = .call { callee := .builtin .append, args := #[s, x], argTypes := #[t, t] })
    (ht : P.underlying t = some (.slice e)) (z : Value) (bytes : Nat) (hinfo : (P.info? e).map (fun i => (i.zero, i.size, i.bytes)) = some (some z, sz, bytes)) (hzs : z.cells.size = sz) (hsz : 0 < sz) (hby : bytes ≤ 1000)
    (hrow : ∀ x, (row x).length = sz) (lo hi : Nat) (v : Value) (xs : List α) (y : α) (cs : Array Value) (w0 : World) (hcs : cs.toList = row y) (hone : ∀ u ∈ row y, u.oneCell' = true)
    (hs : a.eval s = v) (hx : a.eval x = .slice (some ⟨w0.heap.size, 0, none⟩) 1 1)
    (hown : OwnRow e sz row lo hi w0 v xs) (hlen : xs.length < 1000000000) (hB : lo ≤ w0.heap.size)
    (h : ∀ v' w', OwnRow e sz row lo w'.heap.size w' v' (xs ++ [y]) → (∀ A, Below lo A w0 → Below lo A w') → w0.heap.size < w'.heap.size → wpList P ops Q rest (a.put o.dst v') w') :
    wpList P ops Q (o :: rest) a (w0.alloc (.cells cs e)) := by
  obtain ⟨i0, hi0, hz0, hz1, hz2⟩ := info_parts hinfo
  refine wpList_append_own _ hgd s x t ho lo e i0 z sz bytes ht hi0 hz0 hz1 hz2 hzs hsz v xs.length (xs.flatMap row) hs (World.ownsRow.alloc hown.1 _) ⟨w0.heap.size, 0, none⟩ 1 1 (row y) hx (by rw [hrow]; simp) ?_ hone ?_ ?_ ?_ ?_
  · intro j u hj
    rw [← hcs] at hj
    exact World.news_of_block (cs := cs) (t := e) (fr := (0, 0)) (heap_alloc_new w0 _) j u hj
  · unfold maxLen; omega
  · have h1 : (xs.length + 1) * bytes ≤ 1000000000 * 1000 := Nat.mul_le_mul (by omega) hby
    omega
  · simp; omega
  · intro v' w' ho' hg _
    refine h v' w' ⟨?_, fun k hk => (World.ownsRow.lt ho' k hk).2⟩ (fun A hA => ?_) ?_
    · have e1 : (xs ++ [y]).length = xs.length + 1 := by simp
      have e2 : (xs ++ [y]).flatMap row = xs.flatMap row ++ row y := by simp
      rw [e1, e2]; exact ho'
    · exact (hA.alloc hB _).grown hg (by simp; omega) (fun k hk => (World.ownsRow.lt hown.1 k hk).1)
    · have := hg.size; simp at this; omega
theorem OwnIR.off {E : TypeId} {lo hi : Nat} {a b : World} {v : Value} {xs : List Int} {r : Option Nat} (h : OwnIR E lo hi a v xs) (hg : a.grownBy b r) (hoff : ∀ k, r = some k → k < lo ∨ hi ≤ k) : OwnIR E lo hi b v xs := by
  refine ⟨?_, h.2⟩
  obtain ⟨h1, h2⟩ := h.1
  refine ⟨h1, ?_⟩
  rcases h2 with h2 | ⟨g, cap, cur, hv, hlo, hh, r'⟩
  · exact Or.inl h2
  · refine Or.inr ⟨g, cap, cur, hv, hlo, ?_, r'⟩
    have hgs := (Array.getElem?_eq_some_iff.1 hh).1
    have hgh := h.2 g (by rw [hv]; rfl)
    rw [hg.block g hgs (fun e => by have := hoff g e.symm; omega)]; exact hh
theorem push_row_at {P : Program} {ops : Array Oper} {rest : List Oper} {o : Oper} {a : Act} {Q : Exit → Act → World → Prop} (hgd : o.guard = none) (s x : Operand) (t e : TypeId)
    (ho : o.op = .call { callee := .builtin .append, args := #[s, x], argTypes := #[t, t] })
    (ht : P.underlying t = some (.slice e)) (z : Value) (bytes : Nat) (hinfo : (P.info? e).map (fun i => (i.zero, i.size, i.bytes)) = some (some z, sz, bytes)) (hzs : z.cells.size = sz) (hsz : 0 < sz) (hby : bytes ≤ 1000)
    (hrow : ∀ x, (row x).length = sz) (lo hi : Nat) (v : Value) (xs : List α) (y : α) (cs : Array Value) (w0 : World) (hcs : cs.toList = row y) (hone : ∀ u ∈ row y, u.oneCell' = true)
    (hs : a.eval s = v) (hx : a.eval x = .slice (some ⟨w0.heap.size, 0, none⟩) 1 1)
    (hown : OwnRow e sz row lo hi w0 v xs) (hlen : xs.length < 1000000000) (hB : lo ≤ w0.heap.size)
    (h : ∀ v' w', OwnRow e sz row lo w'.heap.size w' v' (xs ++ [y]) → (∀ A, Below lo A w0 → Below lo A w') → w0.heap.size < w'.heap.size → w0.grownBy w' v.ownBlock → (v'.ownBlock = v.ownBlock ∨ v'.ownBlock = some (w0.heap.size + 1)) → wpList P ops Q rest (a.put o.dst v') w') :
    wpList P ops Q (o :: rest) a (w0.alloc (.cells cs e)) := by
  obtain ⟨i0, hi0, hz0, hz1, hz2⟩ := info_parts hinfo
  refine wpList_append_own_at (w := _) hgd s x t ho lo e i0 z sz bytes ht hi0 hz0 hz1 hz2 hzs hsz v xs.length (xs.flatMap row) hs (World.ownsRow.alloc hown.1 _) ⟨w0.heap.size, 0, none⟩ 1 1 (row y) hx (by rw [hrow]; simp) ?_ hone ?_ ?_ ?_ ?_
  · intro j u hj
    rw [← hcs] at hj
    exact World.news_of_block (cs := cs) (t := e) (fr := (0, 0)) (heap_alloc_new w0 _) j u hj
  · unfold maxLen; omega
  · have h1 : (xs.length + 1) * bytes ≤ 1000000000 * 1000 := Nat.mul_le_mul (by omega) hby
    omega
  · simp; omega
  · intro v' w' ho' hg _ hat
    refine h v' w' ⟨?_, fun k hk => (World.ownsRow.lt ho' k hk).2⟩ (fun A hA => ?_) ?_ (grownBy_trans (World.grownBy_alloc w0 _ _) hg) (by simpa using hat)
    · have e1 : (xs ++ [y]).length = xs.length + 1 := by simp
      have e2 : (xs ++ [y]).flatMap row = xs.flatMap row ++ row y := by simp
      rw [e1, e2]; exact ho'
    · exact (hA.alloc hB _).grown hg (by simp; omega) (fun k hk => (World.ownsRow.lt hown.1 k hk).1)
    · have := hg.size; simp at this; omega
/-- the blocks from lo up to hi are as they were -/
def Same (lo hi : Nat) (a b : World) : Prop := hi ≤ b.heap.size ∧ ∀ k, lo ≤ k → k < hi → b.heap[k]? = a.heap[k]?
theorem Same.refl {lo hi : Nat} {a : World} (h : hi ≤ a.heap.size) : Same lo hi a a := ⟨h, fun _ _ _ => rfl⟩
theorem Same.below {lo hi : Nat} {a b c : World} (h : Same lo hi a b) (k : Below b.heap.size b c) : Same lo hi a c :=
  ⟨Nat.le_trans h.1 k.size, fun i h1 h2 => (k.block i (Nat.lt_of_lt_of_le h2 h.1)).trans (h.2 i h1 h2)⟩
theorem Same.grown {lo hi : Nat} {a b c : World} {r : Option Nat} (h : Same lo hi a b) (hg : b.grownBy c r) (hoff : ∀ k, r = some k → k < lo ∨ hi ≤ k) : Same lo hi a c :=
  ⟨Nat.le_trans h.1 hg.size, fun i h1 h2 => (hg.block i (Nat.lt_of_lt_of_le h2 h.1) (fun e => by have := hoff i e.symm; omega)).trans (h.2 i h1 h2)⟩
theorem Same.upd {lo hi lo' hi' : Nat} {a b c : World} (h : Same lo hi a b) (k : Upd lo' hi' b c) (hd : hi' ≤ lo ∨ hi ≤ lo') : Same lo hi a c :=
  ⟨Nat.le_trans h.1 k.size, fun i h1 h2 => (k.block i (by omega) (Nat.lt_of_lt_of_le h2 h.1)).trans (h.2 i h1 h2)⟩
theorem Same.cell {lo hi : Nat} {a b : World} (h : Same lo hi a b) {bl o : Nat} (h1 : lo ≤ bl) (h2 : bl < hi) : b.cell? ⟨bl, o, none⟩ = a.cell? ⟨bl, o, none⟩ := World.cell?_of_block (w := a) (h.2 bl h1 h2)
theorem new_cell {W w4 : World} {cs : Array Value} {T : TypeId} (hb : Below (W.alloc (.cells cs T)).drew.heap.size (W.alloc (.cells cs T)).drew w4) (j : Nat) (u : Value) (h : cs[j]? = some u) :
    w4.cell? ⟨W.heap.size, j, none⟩ = some u ∧ w4.frozen? ⟨W.heap.size, j, none⟩ = false := by
  have hlt : W.heap.size < (W.alloc (.cells cs T)).drew.heap.size := by show W.heap.size < (W.alloc (.cells cs T)).heap.size; simp
  constructor
  · rw [hb.cell (p := ⟨W.heap.size, j, none⟩) hlt]
    show (W.alloc (.cells cs T)).cell? ⟨W.heap.size, j, none⟩ = some u
    rw [World.cell?_alloc_at _ _ _ _ rfl]; exact h
  · rw [hb.frozen (p := ⟨W.heap.size, j, none⟩) hlt]
    show (W.alloc (.cells cs T)).frozen? ⟨W.heap.size, j, none⟩ = false
    exact World.frozen?_alloc_at _ _ _ _ rfl
theorem new_lt {W w4 : World} {cs : Array Value} {T : TypeId} (hb : Below (W.alloc (.cells cs T)).drew.heap.size (W.alloc (.cells cs T)).drew w4) : W.heap.size < w4.heap.size := by
  have h := hb.size
  have h2 : (W.alloc (.cells cs T)).drew.heap.size = W.heap.size + 1 := World.size_alloc _ _
  omega
theorem below_new {W w4 : World} {o : Obj} (hb : Below (W.alloc o).drew.heap.size (W.alloc o).drew w4) : Below W.heap.size W w4 := (((Below.refl _ _).al o).dr).tr hb
theorem below_drew {W w4 : World} (hb : Below W.drew.heap.size W.drew w4) : Below W.heap.size W w4 := ((Below.refl _ _).dr).tr hb
theorem grown_cell {W w7 : World} {o : Obj} {r : Option Nat} (hg : (W.alloc o).drew.grownBy w7 r) (bl off : Nat) (u : Value) (hc : W.cell? ⟨bl, off, none⟩ = some u) (hne : r ≠ some bl) : w7.cell? ⟨bl, off, none⟩ = some u := by
  have hlt : bl < W.heap.size := World.block_lt_of_cell? W _ hc
  refine hg.cell (a := ⟨bl, off, none⟩) ?_ (fun e => hne e.symm)
  show (W.alloc o).cell? ⟨bl, off, none⟩ = some u
  rw [World.cell?_alloc_past _ _ _ hlt]; exact hc
theorem grown_frozen {W w7 : World} {o : Obj} {r : Option Nat} (hg : (W.alloc o).drew.grownBy w7 r) (bl off : Nat) (hl : bl < W.heap.size) (hf : W.frozen? ⟨bl, off, none⟩ = false) (hne : r ≠ some bl) : w7.frozen? ⟨bl, off, none⟩ = false := by
  rw [hg.frozen_far ⟨bl, off, none⟩ (by show bl < (W.alloc o).heap.size; rw [World.size_alloc]; omega) (fun e => hne e.symm)]
  show (W.alloc o).frozen? ⟨bl, off, none⟩ = false
  rw [World.frozen?_alloc_past _ _ _ hl]; exact hf
theorem OwnRow.at {E : TypeId} {lo hi g n cap : Nat} {a : World} {xs : List α} (hrow : ∀ x, (row x).length = sz) (h : OwnRow E sz row lo hi a (.slice (some ⟨g, 0, none⟩) n cap) xs) (k c : Nat) (hk : k < xs.length) (hc : c < sz) :
    (∃ old, a.cell? ⟨g, k * sz + c, none⟩ = some old) ∧ a.frozen? ⟨g, k * sz + c, none⟩ = false := by
  have h' := h.1
  rcases h.1.2 with ⟨h0, _⟩ | ⟨g', cap', cur, he, _, _, _⟩
  · cases h0
  · cases he
    have hlt : k * sz + c < xs.length * sz := by
      have h1 : (k + 1) * sz ≤ xs.length * sz := Nat.mul_le_mul_right _ hk
      rw [Nat.succ_mul] at h1; omega
    have hl : k * sz + c < (xs.flatMap row).length := by rw [flat_len hrow]; exact hlt
    exact ⟨⟨(xs.flatMap row)[k * sz + c], by rw [World.ownsRow.cellAt h' _ hlt, List.getElem?_eq_getElem hl]⟩, World.ownsRow.frozenAt h' _⟩
theorem step_push_row {P : Program} {ops : Array Oper} {o : Oper} {a : Act} {K : Act → World → Prop} {Q : Exit → Act → World → Prop} {Ep : Prop} (hgd : o.guard = none) (s x : Operand) (t e : TypeId)
    (ho : o.op = .call { callee := .builtin .append, args := #[s, x], argTypes := #[t, t] })
    (ht : P.underlying t = some (.slice e)) (z : Value) (bytes : Nat) (hinfo : (P.info? e).map (fun i => (i.zero, i.size, i.bytes)) = some (some z, sz, bytes)) (hzs : z.cells.size = sz) (hsz : 0 < sz) (hby : bytes ≤ 1000)
    (hrow : ∀ x, (row x).length = sz) (lo hi g : Nat) (v : Value) (xs : List α) (y : α) (cs : Array Value) (w1 : World) (hcs : cs.toList = row y) (hone : ∀ u ∈ row y, u.oneCell' = true)
    (hs : a.eval s = v) (hx : a.eval x = .slice (some ⟨g, 0, none⟩) 1 1) (hblk : w1.heap[g]? = some (.cells cs e (0, 0)))
    (hown : OwnRow e sz row lo hi w1 v xs) (hlen : xs.length < 1000000000) (hB : lo ≤ w1.heap.size)
    (h : ∀ v' w', OwnRow e sz row lo w'.heap.size w' v' (xs ++ [y]) → w1.grownBy w' v.ownBlock → (v'.ownBlock = v.ownBlock ∨ v'.ownBlock = some w1.heap.size) → w1.heap.size ≤ w'.heap.size → K (a.put o.dst v') w') :
    if Region.wanted o (yielded ops a.tmps) = true then Oper.wp P o a w1 K Q else Ep := by
  obtain ⟨i0, hi0, hz0, hz1, hz2⟩ := info_parts hinfo
  refine step_append_lies (w := w1) hgd s x t ho lo e i0 z sz bytes ht hi0 hz0 hz1 hz2 hzs hsz v xs.length (xs.flatMap row) hs hown.1 ⟨g, 0, none⟩ 1 1 (row y) hx (by rw [hrow]; simp) ?_ hone (by omega) ?_ ?_ hB _ rfl ?_
  · intro j u hj
    rw [← hcs] at hj
    exact World.news_of_block hblk j u hj
  · unfold maxLen; omega
  · have h1 : (xs.length + 1) * bytes ≤ 1000000000 * 1000 := Nat.mul_le_mul (by omega) hby
    omega
  · intro g' cap w' ho' hg hat _
    refine h _ w' ⟨?_, fun k hk => (World.ownsRow.lt ho' k hk).2⟩ hg ?_ hg.size
    · have e1 : (xs ++ [y]).length = xs.length + 1 := by simp
      have e2 : (xs ++ [y]).flatMap row = xs.flatMap row ++ row y := by simp
      rw [e1, e2]; exact ho'
    · rcases hat with hat | hat
      · left; rw [hat]; rfl
      · right; rw [hat]; rfl
end
end Go.RowKit
