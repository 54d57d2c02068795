/- The law LinesX: what it rests on, part 1 of 46. -/
import Derived.WalkKit
import Derived.WalkLawsBesides
import Derived.Below
import Derived.Maps.AppendAt
import Derived.Lib.Hide
namespace Go.RowKit
theorem Below.tr {a b c : World} (h : Below a.heap.size a b) (k : Below b.heap.size b c) : Below a.heap.size a c := h.trans (k.mono h.size)
theorem Below.al {a b : World} (h : Below a.heap.size a b) (o : Obj) : Below a.heap.size a (b.alloc o) := h.alloc h.size o
theorem Below.dr {a b : World} (h : Below a.heap.size a b) : Below a.heap.size a b.drew := h.drew
theorem Below.drN {a b : World} (h : Below a.heap.size a b) (n : Nat) : Below a.heap.size a (b.drewN n) := ⟨h.os, h.tape, h.output, h.size, h.block⟩
theorem bcell {W w1 : World} (hb : Below W.heap.size W w1) : (∀ b o, b < W.heap.size → w1.cell? ⟨b, o, none⟩ = W.cell? ⟨b, o, none⟩) ∧ (∀ b o, b < W.heap.size → w1.frozen? ⟨b, o, none⟩ = W.frozen? ⟨b, o, none⟩) :=
  ⟨fun b o h => hb.cell (p := ⟨b, o, none⟩) h, fun b o h => hb.frozen (p := ⟨b, o, none⟩) h⟩
/-- int64s in a row of the call's own, from block B on -/
def ints (xs : List Int) : List Value := xs.map (Value.int .i64)
def OwnI (E : TypeId) (B : Nat) (w : World) (v : Value) (xs : List Int) : Prop := w.ownsRow B E 1 v xs.length (ints xs)
/-- rows are kept where what is below the heap's end is kept -/
theorem owns_below {B : Nat} {E : TypeId} {size : Nat} {a b : World} {v : Value} {n : Nat} {xs : List Value} (h : a.ownsRow B E size v n xs) (hb : Below a.heap.size a b) : b.ownsRow B E size v n xs := by
  have hl := h.lt
  obtain ⟨h1, h2⟩ := h
  refine ⟨h1, ?_⟩
  rcases h2 with h2 | ⟨g, cap, cur, hv, hg, hh, r⟩
  · exact Or.inl h2
  · refine Or.inr ⟨g, cap, cur, hv, hg, ?_, r⟩
    rw [hb.block g (Array.getElem?_eq_some_iff.1 hh).1]; exact hh
theorem owns_base {B B' : Nat} {E : TypeId} {size : Nat} {a : World} {v : Value} {n : Nat} {xs : List Value} (h : a.ownsRow B E size v n xs) (hB : B' ≤ B) : a.ownsRow B' E size v n xs := by
  obtain ⟨h1, h2⟩ := h
  refine ⟨h1, ?_⟩
  rcases h2 with h2 | ⟨g, cap, cur, hv, hg, r⟩
  · exact Or.inl h2
  · exact Or.inr ⟨g, cap, cur, hv, Nat.le_trans hB hg, r⟩
theorem OwnI.below {B : Nat} {E : TypeId} {a b : World} {v : Value} {xs : List Int} (h : OwnI E B a v xs) (hb : Below a.heap.size a b) : OwnI E B b v xs := owns_below h hb
theorem OwnI.base {B B' : Nat} {E : TypeId} {a : World} {v : Value} {xs : List Int} (h : OwnI E B a v xs) (hB : B' ≤ B) : OwnI E B' a v xs := owns_base h hB
theorem OwnI.nil {B : Nat} {E : TypeId} {a : World} (v : Value) (hv : v = .slice none 0 0) : OwnI E B a v [] := by subst hv; exact World.ownsRow_nil a B E 1
theorem OwnI.made {B g : Nat} {E : TypeId} {a : World} {xs : List Int} (hx : xs = []) (hg : g = a.heap.size) (hB : B ≤ a.heap.size) : OwnI E B (a.alloc (.cells #[] E)) (.slice (some ⟨g, 0, none⟩) 0 0) xs := by subst hx; subst hg; exact World.ownsRow_made a #[] 0 hB (by decide) rfl
/-- an owned row's value -/
theorem OwnI.shape {B : Nat} {E : TypeId} {a : World} {v : Value} {xs : List Int} (h : OwnI E B a v xs) :
    (v = .slice none 0 0 ∧ xs = []) ∨ ∃ g cap, v = .slice (some ⟨g, 0, none⟩) xs.length cap ∧ B ≤ g ∧ g < a.heap.size ∧ xs.length ≤ cap ∧ cap ≤ maxLen ∧
      (∀ j, j < xs.length → a.cell? ⟨g, j, none⟩ = some (.int .i64 (xs.getD j 0))) ∧ ∀ j, a.frozen? ⟨g, j, none⟩ = false := by
  have h' := h
  rcases h.2 with ⟨hv, hn⟩ | ⟨g, cap, cur, rfl, hg, hh, hn, hm, _⟩
  · exact Or.inl ⟨hv, List.eq_nil_of_length_eq_zero hn⟩
  · refine Or.inr ⟨g, cap, rfl, hg, (Array.getElem?_eq_some_iff.1 hh).1, hn, hm, fun j hj => ?_, fun j => World.ownsRow.frozenAt h' j⟩
    rw [World.ownsRow.cellAt h' j (by omega)]
    simp [ints, List.getElem?_map, List.getElem?_eq_getElem hj]
theorem OwnI.setBelow {B : Nat} {E : TypeId} {a : World} {v : Value} {xs : List Int} (h : OwnI E B a v xs) {p : Addr} (hp : p.block < B) (u : Value) : OwnI E B (a.setCell p u) v xs := ownsRow_setCell_below h hp u
theorem OwnI.al {B : Nat} {E : TypeId} {a : World} {v : Value} {xs : List Int} (h : OwnI E B a v xs) (o : Obj) : OwnI E B (a.alloc o) v xs := World.ownsRow.alloc h o
theorem OwnI.dr {B : Nat} {E : TypeId} {a : World} {v : Value} {xs : List Int} (h : OwnI E B a v xs) : OwnI E B a.drew v xs := h
theorem OwnI.drN {B : Nat} {E : TypeId} {a : World} {v : Value} {xs : List Int} (h : OwnI E B a v xs) (n : Nat) : OwnI E B (a.drewN n) v xs := h
/-- an element of an owned row can be written -/
theorem OwnI.at {B g n cap : Nat} {E : TypeId} {a : World} {xs : List Int} (h : OwnI E B a (.slice (some ⟨g, 0, none⟩) n cap) xs) (k : Nat) (hk : k < xs.length) :
    (∃ old, a.cell? ⟨g, k, none⟩ = some old) ∧ a.frozen? ⟨g, k, none⟩ = false := by
  rcases h.shape with ⟨h0, _⟩ | ⟨g', cap', he, _, _, _, _, hcr, hfr⟩
  · cases h0
  · cases he
    exact ⟨⟨_, hcr k hk⟩, hfr k⟩
theorem push_int {P : Program} {ops : Array Oper} {rest : List Oper} {o : Oper} {a : Act} {Q : Exit → Act → World → Prop} (hgd : o.guard = none) (s x : Operand) (t e : TypeId)
    (ho : o.op = .call { callee := .builtin .append, args := #[s, x], argTypes := #[t, t] })
    (ht : P.underlying t = some (.slice e)) (hinfo : (P.info? e).map (fun i => (i.zero, i.size, i.bytes)) = some (some (.int .i64 0), 1, 8))
    (B : Nat) (v : Value) (xs : List Int) (n : Int) (w0 : World) (hs : a.eval s = v) (hx : a.eval x = .slice (some ⟨w0.heap.size, 0, none⟩) 1 1)
    (hown : OwnI e B w0 v xs) (hlen : xs.length < 1000000000) (hB : B ≤ w0.heap.size)
    (h : ∀ v' w', OwnI e B w' v' (xs ++ [n]) → (∀ A, Below B A w0 → Below B A w') → w0.heap.size < w'.heap.size → wpList P ops Q rest (a.put o.dst v') w') :
    wpList P ops Q (o :: rest) a (w0.alloc (.cells #[.int .i64 n] e)) := by
  obtain ⟨i0, hi, hz0, hz1, hz2⟩ := info_parts hinfo
  refine wpList_append_own _ hgd s x t ho B e i0 (.int .i64 0) 1 8 ht hi hz0 hz1 hz2 rfl (by decide) v xs.length (ints xs) hs (World.ownsRow.alloc hown _) ⟨w0.heap.size, 0, none⟩ 1 1 [.int .i64 n] hx rfl ?_ ?_ ?_ ?_ ?_ ?_
  · exact cell_one_new _ _ _
  · intro u hu; simp at hu; subst hu; rfl
  · unfold maxLen; omega
  · omega
  · simp; omega
  · intro v' w' ho' hg _
    refine h v' w' ?_ (fun A hA => ?_) ?_
    · have e1 : (xs ++ [n]).length = xs.length + 1 := by simp
      have e2 : ints (xs ++ [n]) = ints xs ++ [.int .i64 n] := by simp [ints]
      unfold OwnI; rw [e1, e2]; exact ho'
    · exact (hA.alloc hB _).grown hg (by simp; omega) (fun k hk => (World.ownsRow.lt hown k hk).1)
    · have := hg.size; simp at this; omega
/-- a slice of int64s that is only read -/
def RdI (w : World) (v : Value) (xs : List Int) : Prop :=
  ∃ a cap, v = .slice a xs.length cap ∧ xs.length ≤ 9223372036854775807 ∧ ∀ k, k < xs.length → ∃ b off, a = some ⟨b, off, none⟩ ∧ w.cell? ⟨b, off + k, none⟩ = some (.int .i64 (xs.getD k 0))
theorem RdI.below {a b : World} {v : Value} {xs : List Int} (h : RdI a v xs) (hb : Below a.heap.size a b) : RdI b v xs := by
  obtain ⟨ad, cap, hv, hl, hc⟩ := h
  refine ⟨ad, cap, hv, hl, fun k hk => ?_⟩
  obtain ⟨bl, off, ha, hcell⟩ := hc k hk
  exact ⟨bl, off, ha, by rw [hb.cell (p := ⟨bl, off + k, none⟩) (World.block_lt_of_cell? a _ hcell)]; exact hcell⟩
theorem OwnI.rd {B : Nat} {E : TypeId} {a : World} {v : Value} {xs : List Int} (h : OwnI E B a v xs) : RdI a v xs := by
  rcases h.shape with ⟨rfl, rfl⟩ | ⟨g, cap, rfl, _, _, hl, hm, hc, _⟩
  · exact ⟨none, 0, rfl, by simp, fun k hk => by simp at hk⟩
  · exact ⟨_, _, rfl, by unfold maxLen at hm; omega, fun k hk => ⟨g, 0, rfl, by rw [Nat.zero_add]; exact hc k hk⟩⟩
/-- what is read lies in other blocks than the one that was written -/
theorem RdI.grown {a b : World} {v v1 : Value} {xs : List Int} {B : Nat} (h : RdI a v xs) (hg : a.grownBy b v1.ownBlock) (hlt : ∀ k, v.ownBlock = some k → k < B) (hge : ∀ k, v1.ownBlock = some k → B ≤ k) : RdI b v xs := by
  obtain ⟨ad, cap, rfl, hl, hc⟩ := h
  refine ⟨ad, cap, rfl, hl, fun k hk => ?_⟩
  obtain ⟨bl, off, rfl, hcell⟩ := hc k hk
  refine ⟨bl, off, rfl, hg.cell hcell ?_⟩
  intro e
  have h1 := hlt bl rfl
  have h2 := hge bl e.symm
  omega
theorem OwnI.store {B : Nat} {E : TypeId} {a : World} {g cap : Nat} {xs : List Int} (h : OwnI E B a (.slice (some ⟨g, 0, none⟩) xs.length cap) xs) (j : Nat) (n : Int) :
    OwnI E B (a.setCell ⟨g, j, none⟩ (.int .i64 n)) (.slice (some ⟨g, 0, none⟩) xs.length cap) (xs.set j n) ∧ a.grownBy (a.setCell ⟨g, j, none⟩ (.int .i64 n)) (some g) := by
  have h' := World.ownsRow.stored h j (.int .i64 n)
  refine ⟨?_, h'.2⟩
  have e : ints (xs.set j n) = (ints xs).set j (.int .i64 n) := by simp [ints, List.map_set]
  unfold OwnI
  rw [e]; simp only [List.length_set]; exact h'.1
theorem grownBy_refl (a : World) (r : Option Nat) : a.grownBy a r := ⟨rfl, rfl, rfl, Nat.le_refl _, fun _ _ _ => rfl⟩
theorem grownBy_trans {a b c : World} {r : Option Nat} (h : a.grownBy b r) (k : b.grownBy c r) : a.grownBy c r :=
  ⟨k.os.trans h.os, k.tape.trans h.tape, k.output.trans h.output, Nat.le_trans h.size k.size, fun i hi hr => (k.block i (Nat.lt_of_lt_of_le hi h.size) hr).trans (h.block i hi hr)⟩
/-- only blocks from lo up to hi, and new ones, differ -/
structure Upd (lo hi : Nat) (w w' : World) : Prop where
  os : w'.os = w.os
  tape : w'.tape = w.tape
  output : w'.output = w.output
  size : w.heap.size ≤ w'.heap.size
  block : ∀ k, (k < lo ∨ hi ≤ k) → k < w.heap.size → w'.heap[k]? = w.heap[k]?
theorem Upd.trans {lo hi : Nat} {a b c : World} (h : Upd lo hi a b) (k : Upd lo hi b c) : Upd lo hi a c :=
  ⟨k.os.trans h.os, k.tape.trans h.tape, k.output.trans h.output, Nat.le_trans h.size k.size, fun i hi hl => (k.block i hi (Nat.lt_of_lt_of_le hl h.size)).trans (h.block i hi hl)⟩
theorem Upd.of_below {lo hi : Nat} {a b : World} (h : Below a.heap.size a b) : Upd lo hi a b := ⟨h.os, h.tape, h.output, h.size, fun k _ hl => h.block k hl⟩
theorem Upd.below {lo hi B : Nat} {a b : World} (h : Upd lo hi a b) (hB : B ≤ lo) (hs : B ≤ a.heap.size) : Below B a b := ⟨h.os, h.tape, h.output, h.size, fun k hk => h.block k (Or.inl (by omega)) (by omega)⟩
theorem Upd.cell {lo hi : Nat} {a b : World} (h : Upd lo hi a b) (bl o : Nat) (hb : bl < lo ∨ hi ≤ bl) (hl : bl < a.heap.size) : b.cell? ⟨bl, o, none⟩ = a.cell? ⟨bl, o, none⟩ := World.cell?_of_block (w := a) (h.block bl hb hl)
theorem Upd.frozen {lo hi : Nat} {a b : World} (h : Upd lo hi a b) (bl o : Nat) (hb : bl < lo ∨ hi ≤ bl) (hl : bl < a.heap.size) : b.frozen? ⟨bl, o, none⟩ = a.frozen? ⟨bl, o, none⟩ := World.frozen?_of_block (w := a) (h.block bl hb hl)
theorem Upd.of_grown {lo hi : Nat} {a b : World} {r : Option Nat} (hg : a.grownBy b r) (hr : ∀ k, r = some k → lo ≤ k ∧ k < hi) : Upd lo hi a b :=
  ⟨hg.os, hg.tape, hg.output, hg.size, fun k hk hl => hg.block k hl (fun e => by have := hr k e.symm; omega)⟩
/-- a row of int64s of the call's own in a block from lo up to hi -/
def OwnIR (E : TypeId) (lo hi : Nat) (w : World) (v : Value) (xs : List Int) : Prop := OwnI E lo w v xs ∧ ∀ k, v.ownBlock = some k → k < hi
theorem OwnI.ir {E : TypeId} {B : Nat} {w : World} {v : Value} {xs : List Int} (h : OwnI E B w v xs) : OwnIR E B w.heap.size w v xs := ⟨h, fun k hk => (World.ownsRow.lt h k hk).2⟩
theorem OwnIR.below {E : TypeId} {lo hi : Nat} {a b : World} {v : Value} {xs : List Int} (h : OwnIR E lo hi a v xs) (hb : Below a.heap.size a b) : OwnIR E lo hi b v xs := ⟨h.1.below hb, h.2⟩
theorem OwnIR.upd {E : TypeId} {lo hi lo' hi' : Nat} {a b : World} {v : Value} {xs : List Int} (h : OwnIR E lo hi a v xs) (hb : Upd lo' hi' a b) (hd : hi ≤ lo' ∨ hi' ≤ lo) : OwnIR E lo hi b v xs := by
  refine ⟨?_, h.2⟩
  have hl := h.1.lt
  obtain ⟨h1, h2⟩ := h.1
  refine ⟨h1, ?_⟩
  rcases h2 with h2 | ⟨g, cap, cur, hv, hg, hh, r⟩
  · exact Or.inl h2
  · refine Or.inr ⟨g, cap, cur, hv, hg, ?_, r⟩
    have hgs := (Array.getElem?_eq_some_iff.1 hh).1
    have hgh := h.2 g (by rw [hv]; rfl)
    rw [hb.block g (by omega) hgs]; exact hh
theorem OwnIR.wide {E : TypeId} {lo hi lo' hi' : Nat} {a : World} {v : Value} {xs : List Int} (h : OwnIR E lo hi a v xs) (h1 : lo' ≤ lo) (h2 : hi ≤ hi') : OwnIR E lo' hi' a v xs := ⟨h.1.base h1, fun k hk => Nat.lt_of_lt_of_le (h.2 k hk) h2⟩
theorem OwnIR.rd {E : TypeId} {lo hi : Nat} {a : World} {v : Value} {xs : List Int} (h : OwnIR E lo hi a v xs) : RdI a v xs := OwnI.rd h.1
theorem OwnIR.al {E : TypeId} {lo hi : Nat} {a : World} {v : Value} {xs : List Int} (h : OwnIR E lo hi a v xs) (o : Obj) : OwnIR E lo hi (a.alloc o) v xs := ⟨h.1.al o, h.2⟩
theorem OwnIR.drN {E : TypeId} {lo hi : Nat} {a : World} {v : Value} {xs : List Int} (h : OwnIR E lo hi a v xs) (n : Nat) : OwnIR E lo hi (a.drewN n) v xs := ⟨h.1.drN n, h.2⟩
end Go.RowKit
