/- The law OrdersX: what it rests on, part 6 of 48. -/
import Derived.Test.YtgcmnpimkfmccaaQOrdersX05
namespace Go.RowKit
open Go.ChangeShapes Go.WideShapes Go.ChangeAt
set_option linter.unusedVariables false
/-- only blocks of D, and new ones, differ -/
structure UpdS (D : Nat → Prop) (w w' : World) : Prop where
  os : w'.os = w.os
  tape : w'.tape = w.tape
  output : w'.output = w.output
  size : w.heap.size ≤ w'.heap.size
  block : ∀ k, k < w.heap.size → ¬ D k → w'.heap[k]? = w.heap[k]?
theorem UpdS.trans {D D' : Nat → Prop} {a b c : World} (h : UpdS D a b) (k : UpdS D' b c) (hD : ∀ i, i < a.heap.size → D' i → D i) : UpdS D a c :=
  ⟨k.os.trans h.os, k.tape.trans h.tape, k.output.trans h.output, Nat.le_trans h.size k.size, fun i hi hn => (k.block i (Nat.lt_of_lt_of_le hi h.size) (fun d => hn (hD i hi d))).trans (h.block i hi hn)⟩
theorem UpdS.refl (D : Nat → Prop) (a : World) : UpdS D a a := ⟨rfl, rfl, rfl, Nat.le_refl _, fun _ _ _ => rfl⟩
theorem UpdS.of_below {D : Nat → Prop} {a b : World} (h : Below a.heap.size a b) : UpdS D a b := ⟨h.os, h.tape, h.output, h.size, fun k hk _ => h.block k hk⟩
theorem UpdS.of_grown {D : Nat → Prop} {a b : World} {r : Option Nat} (h : a.grownBy b r) (hr : ∀ k, r = some k → D k) : UpdS D a b :=
  ⟨h.os, h.tape, h.output, h.size, fun k hk hn => h.block k hk (fun e => hn (hr k e.symm))⟩
theorem UpdS.of_set {D : Nat → Prop} {a : World} {g j : Nat} (u : Value) (hD : D g) : UpdS D a (a.setCell ⟨g, j, none⟩ u) :=
  ⟨rfl, rfl, rfl, by simp, fun k _ hn => heap_setCell_other a _ k _ (fun e => hn (by have e' : k = g := e; subst e'; exact hD))⟩
theorem UpdS.upd {D : Nat → Prop} {lo hi : Nat} {a b : World} (h : UpdS D a b) (hD : ∀ k, k < a.heap.size → D k → lo ≤ k ∧ k < hi) : Upd lo hi a b :=
  ⟨h.os, h.tape, h.output, h.size, fun k hk hl => h.block k hl (fun d => by have := hD k hl d; omega)⟩
theorem UpdS.cell {D : Nat → Prop} {a b : World} (h : UpdS D a b) {bl o : Nat} {v : Value} (k : a.cell? ⟨bl, o, none⟩ = some v) (hn : ¬ D bl) : b.cell? ⟨bl, o, none⟩ = some v :=
  (World.cell?_of_block (w := a) (h.block bl (World.block_lt_of_cell? a _ k) hn)).trans k
theorem UpdS.rd {D : Nat → Prop} {a b : World} {v : Value} {xs : List Int} (h : UpdS D a b) (k : RdI a v xs) (hn : ∀ b, v.ownBlock = some b → ¬ D b) : RdI b v xs := by
  obtain ⟨ad, cap, rfl, hl, hc⟩ := k
  refine ⟨ad, cap, rfl, hl, fun i hi => ?_⟩
  obtain ⟨bl, off, rfl, hcell⟩ := hc i hi
  exact ⟨bl, off, rfl, h.cell hcell (hn bl rfl)⟩
/-- a row's next value: in the row's block, or in a new one -/
def NextV (n : Nat) (v v' : Value) : Prop := v'.ownBlock = v.ownBlock ∨ ∀ b, v'.ownBlock = some b → n ≤ b
theorem NextV.refl (n : Nat) (v : Value) : NextV n v v := Or.inl rfl
theorem NextV.trans {n : Nat} {a b c : Value} (h : NextV n a b) (k : NextV n b c) : NextV n a c := by
  rcases k with k | k
  · rcases h with h | h
    · exact Or.inl (k.trans h)
    · exact Or.inr (fun q hq => h q (k ▸ hq))
  · exact Or.inr k
theorem NextV.low {n m : Nat} {a b : Value} (h : NextV n a b) (hm : m ≤ n) : NextV m a b := by
  rcases h with h | h
  · exact Or.inl h
  · exact Or.inr (fun q hq => Nat.le_trans hm (h q hq))
def rowsOf (bt bp : Nat) (vt vq : Value) (k : Nat) : Prop := k = bt ∨ k = bp ∨ vt.ownBlock = some k ∨ vq.ownBlock = some k
/-- two rows, their values in two boxes -/
structure TwoAt (E : TypeId) (lo bt bp : Nat) (w : World) (vt vq : Value) (T Q : List Int) : Prop where
  ct : w.cell? ⟨bt, 0, none⟩ = some vt
  ft : w.frozen? ⟨bt, 0, none⟩ = false
  cp : w.cell? ⟨bp, 0, none⟩ = some vq
  fp : w.frozen? ⟨bp, 0, none⟩ = false
  ot : OwnI E lo w vt T
  op : OwnI E lo w vq Q
  st : ∃ ad n cap, vt = .slice (some ad) n cap
  sp : ∃ ad n cap, vq = .slice (some ad) n cap
  nt : ∀ b, vt.ownBlock = some b → b ≠ bt ∧ b ≠ bp ∧ vq.ownBlock ≠ some b
  np : ∀ b, vq.ownBlock = some b → b ≠ bt ∧ b ≠ bp
  ne : bt ≠ bp
/-- amid a step: the boxes still hold the rows' elder values -/
structure MidAt (E : TypeId) (lo bt bp : Nat) (wr w : World) (vt vq vt2 vq2 : Value) (T2 Q2 : List Int) : Prop where
  ct : w.cell? ⟨bt, 0, none⟩ = some vt
  ft : w.frozen? ⟨bt, 0, none⟩ = false
  cp : w.cell? ⟨bp, 0, none⟩ = some vq
  fp : w.frozen? ⟨bp, 0, none⟩ = false
  ot : OwnI E lo w vt2 T2
  op : OwnI E lo w vq2 Q2
  st : ∃ ad n cap, vt2 = .slice (some ad) n cap
  sp : ∃ ad n cap, vq2 = .slice (some ad) n cap
  nt : ∀ b, vt2.ownBlock = some b → b ≠ bt ∧ b ≠ bp ∧ vq2.ownBlock ≠ some b
  np : ∀ b, vq2.ownBlock = some b → b ≠ bt ∧ b ≠ bp
  ne : bt ≠ bp
  xt : NextV wr.heap.size vt vt2
  xp : NextV wr.heap.size vq vq2
  up : UpdS (rowsOf bt bp vt vq) wr w
theorem TwoAt.mid {E : TypeId} {lo bt bp : Nat} {w : World} {vt vq : Value} {T Q : List Int} (h : TwoAt E lo bt bp w vt vq T Q) : MidAt E lo bt bp w w vt vq vt vq T Q :=
  ⟨h.ct, h.ft, h.cp, h.fp, h.ot, h.op, h.st, h.sp, h.nt, h.np, h.ne, NextV.refl _ _, NextV.refl _ _, UpdS.refl _ _⟩
theorem cellB {a b : World} (hb : Below a.heap.size a b) {bl o : Nat} {v : Value} (k : a.cell? ⟨bl, o, none⟩ = some v) : b.cell? ⟨bl, o, none⟩ = some v :=
  (hb.cell (p := ⟨bl, o, none⟩) (World.block_lt_of_cell? a _ k)).trans k
theorem frozB {a b : World} (hb : Below a.heap.size a b) {bl o : Nat} {v : Value} (k : a.cell? ⟨bl, o, none⟩ = some v) (hf : a.frozen? ⟨bl, o, none⟩ = false) : b.frozen? ⟨bl, o, none⟩ = false :=
  (World.frozen?_of_block (w := a) (hb.block bl (World.block_lt_of_cell? a _ k))).trans hf
theorem TwoAt.below {E : TypeId} {lo bt bp : Nat} {w w' : World} {vt vq : Value} {T Q : List Int} (h : TwoAt E lo bt bp w vt vq T Q) (hb : Below w.heap.size w w') : TwoAt E lo bt bp w' vt vq T Q :=
  ⟨cellB hb h.ct, frozB hb h.ct h.ft, cellB hb h.cp, frozB hb h.cp h.fp, h.ot.below hb, h.op.below hb, h.st, h.sp, h.nt, h.np, h.ne⟩
theorem MidAt.below {E : TypeId} {lo bt bp : Nat} {wr w w' : World} {vt vq vt2 vq2 : Value} {T Q : List Int} (h : MidAt E lo bt bp wr w vt vq vt2 vq2 T Q) (hb : Below w.heap.size w w') : MidAt E lo bt bp wr w' vt vq vt2 vq2 T Q :=
  ⟨cellB hb h.ct, frozB hb h.ct h.ft, cellB hb h.cp, frozB hb h.cp h.fp, h.ot.below hb, h.op.below hb, h.st, h.sp, h.nt, h.np, h.ne, h.xt, h.xp, h.up.trans (UpdS.of_below hb) (fun _ _ d => d)⟩
theorem grownB {a b : World} {r : Option Nat} (hg : a.grownBy b r) {bl o : Nat} {v : Value} (k : a.cell? ⟨bl, o, none⟩ = some v) (hr : r ≠ some bl) : b.cell? ⟨bl, o, none⟩ = some v :=
  (World.cell?_of_block (w := a) (hg.block bl (World.block_lt_of_cell? a _ k) (fun e => hr e.symm))).trans k
theorem grownF {a b : World} {r : Option Nat} (hg : a.grownBy b r) {bl o : Nat} {v : Value} (k : a.cell? ⟨bl, o, none⟩ = some v) (hf : a.frozen? ⟨bl, o, none⟩ = false) (hr : r ≠ some bl) : b.frozen? ⟨bl, o, none⟩ = false :=
  (World.frozen?_of_block (w := a) (hg.block bl (World.block_lt_of_cell? a _ k) (fun e => hr e.symm))).trans hf
theorem OwnI.far {E : TypeId} {B : Nat} {a b : World} {v : Value} {xs : List Int} {r : Option Nat} (h : OwnI E B a v xs) (hg : a.grownBy b r) (hne : ∀ k, v.ownBlock = some k → r ≠ some k) : OwnI E B b v xs :=
  owns_block h fun k hk => hg.block k (World.ownsRow.lt h k hk).2 (fun hb => hne k hk hb.symm)
theorem MidAt.pushT {E : TypeId} {lo bt bp : Nat} {wr w w' : World} {vt vq vt2 vq2 v' : Value} {T Q T' : List Int} (h : MidAt E lo bt bp wr w vt vq vt2 vq2 T Q)
    (ho : OwnI E lo w' v' T') (hg : w.grownBy w' vt2.ownBlock) (hat : v'.ownBlock = vt2.ownBlock ∨ v'.ownBlock = some w.heap.size) (hs : ∃ ad n cap, v' = .slice (some ad) n cap) : MidAt E lo bt bp wr w' vt vq v' vq2 T' Q := by
  have hbt : vt2.ownBlock ≠ some bt := fun e => (h.nt bt e).1 rfl
  have hbp : vt2.ownBlock ≠ some bp := fun e => (h.nt bp e).2.1 rfl
  have lt := World.block_lt_of_cell? w _ h.ct
  have lp := World.block_lt_of_cell? w _ h.cp
  have hup := h.up.size
  refine ⟨grownB hg h.ct hbt, grownF hg h.ct h.ft hbt, grownB hg h.cp hbp, grownF hg h.cp h.fp hbp, ho, h.op.far hg (fun k hk e => (h.nt k e).2.2 hk), hs, h.sp, fun b hb => ?_, h.np, h.ne, h.xt.trans ?_, h.xp, h.up.trans (UpdS.of_grown hg (D := fun k => vt2.ownBlock = some k) (fun k hk => hk)) (fun i hi d => ?_)⟩
  · rcases hat with e | e
    · exact h.nt b (e ▸ hb)
    · rw [e] at hb
      simp only [Option.some.injEq] at hb
      subst hb
      have lt' : bt < w.heap.size := lt
      have lp' : bp < w.heap.size := lp
      exact ⟨by omega, by omega, fun e2 => by have := (World.ownsRow.lt h.op _ e2).2; omega⟩
  · rcases hat with e | e
    · exact Or.inl e
    · exact Or.inr (fun b hb => by rw [e] at hb; simp only [Option.some.injEq] at hb; omega)
  · rcases h.xt with e | e
    · exact Or.inr (Or.inr (Or.inl (e ▸ d)))
    · have := e i d; omega
theorem MidAt.pushQ {E : TypeId} {lo bt bp : Nat} {wr w w' : World} {vt vq vt2 vq2 v' : Value} {T Q Q' : List Int} (h : MidAt E lo bt bp wr w vt vq vt2 vq2 T Q)
    (ho : OwnI E lo w' v' Q') (hg : w.grownBy w' vq2.ownBlock) (hat : v'.ownBlock = vq2.ownBlock ∨ v'.ownBlock = some w.heap.size) (hs : ∃ ad n cap, v' = .slice (some ad) n cap) : MidAt E lo bt bp wr w' vt vq vt2 v' T Q' := by
  have hbt : vq2.ownBlock ≠ some bt := fun e => (h.np bt e).1 rfl
  have hbp : vq2.ownBlock ≠ some bp := fun e => (h.np bp e).2 rfl
  have lt := World.block_lt_of_cell? w _ h.ct
  have lp := World.block_lt_of_cell? w _ h.cp
  have lt' : bt < w.heap.size := lt
  have lp' : bp < w.heap.size := lp
  have hup := h.up.size
  refine ⟨grownB hg h.ct hbt, grownF hg h.ct h.ft hbt, grownB hg h.cp hbp, grownF hg h.cp h.fp hbp, h.ot.far hg (fun k hk e => (h.nt k hk).2.2 e), ho, h.st, hs, fun b hb => ?_, fun b hb => ?_, h.ne, h.xt, h.xp.trans ?_, h.up.trans (UpdS.of_grown hg (D := fun k => vq2.ownBlock = some k) (fun k hk => hk)) (fun i hi d => ?_)⟩
  · obtain ⟨h1, h2, h3⟩ := h.nt b hb
    refine ⟨h1, h2, fun e2 => ?_⟩
    rcases hat with e | e
    · exact h3 (e ▸ e2)
    · rw [e] at e2
      simp only [Option.some.injEq] at e2
      have := (World.ownsRow.lt h.ot _ hb).2
      omega
  · rcases hat with e | e
    · exact h.np b (e ▸ hb)
    · rw [e] at hb
      simp only [Option.some.injEq] at hb
      omega
  · rcases hat with e | e
    · exact Or.inl e
    · exact Or.inr (fun b hb => by rw [e] at hb; simp only [Option.some.injEq] at hb; omega)
  · rcases h.xp with e | e
    · exact Or.inr (Or.inr (Or.inr (e ▸ d)))
    · have := e i d; omega
theorem OwnI.setFar {E : TypeId} {B g j : Nat} {a : World} {v : Value} {xs : List Int} (h : OwnI E B a v xs) (hne : ∀ k, v.ownBlock = some k → k ≠ g) (u : Value) : OwnI E B (a.setCell ⟨g, j, none⟩ u) v xs :=
  owns_block h fun k hk => heap_setCell_other a _ k _ (fun e => hne k hk (by exact e))
theorem MidAt.stored {E : TypeId} {lo bt bp : Nat} {wr w : World} {vt vq vt2 vq2 : Value} {T Q : List Int} (h : MidAt E lo bt bp wr w vt vq vt2 vq2 T Q) :
    TwoAt E lo bt bp ((w.setCell ⟨bt, 0, none⟩ vt2).setCell ⟨bp, 0, none⟩ vq2) vt2 vq2 T Q ∧ NextV wr.heap.size vt vt2 ∧ NextV wr.heap.size vq vq2 ∧ UpdS (rowsOf bt bp vt vq) wr ((w.setCell ⟨bt, 0, none⟩ vt2).setCell ⟨bp, 0, none⟩ vq2) := by
  have hne := h.ne
  have e1 : (w.setCell ⟨bt, 0, none⟩ vt2).cell? ⟨bt, 0, none⟩ = some vt2 := World.cell?_setCell_same w _ _ h.ct
  have e2 : (w.setCell ⟨bt, 0, none⟩ vt2).cell? ⟨bp, 0, none⟩ = some vq := (World.cell?_setCell_other _ _ _ _ (fun e => by cases e; exact hne rfl)).trans h.cp
  refine ⟨⟨(World.cell?_setCell_other _ _ _ _ (fun e => by cases e; exact hne rfl)).trans e1, by rw [World.frozen?_setCell, World.frozen?_setCell]; exact h.ft, World.cell?_setCell_same _ _ _ e2, by rw [World.frozen?_setCell, World.frozen?_setCell]; exact h.fp, (h.ot.setFar (fun k hk => (h.nt k hk).1) _).setFar (fun k hk => (h.nt k hk).2.1) _, (h.op.setFar (fun k hk => (h.np k hk).1) _).setFar (fun k hk => (h.np k hk).2) _, h.st, h.sp, h.nt, h.np, h.ne⟩, h.xt, h.xp, (h.up.trans (UpdS.of_set (D := rowsOf bt bp vt vq) _ (Or.inl rfl)) (fun _ _ d => d)).trans (UpdS.of_set (D := rowsOf bt bp vt vq) _ (Or.inr (Or.inl rfl))) (fun _ _ d => d)⟩
theorem step_push_i {P : Program} {ops : Array Oper} {o : Oper} {a : Act} {K : Act → World → Prop} {Q : Exit → Act → World → Prop} {Ep : Prop} {e : TypeId} (hgd : o.guard = none) (s x : Operand) (t : TypeId)
    (ho : o.op = .call { callee := .builtin .append, args := #[s, x], argTypes := #[t, t] })
    (ht : P.underlying t = some (.slice e)) (hinfo : (P.info? e).map (fun i => (i.zero, i.size, i.bytes)) = some (some (.int .i64 0), 1, 8))
    (B : Nat) (v : Value) (xs : List Int) (n : Int) (g : Nat) (w0 : World) (hs : a.eval s = v) (hx : a.eval x = .slice (some ⟨g, 0, none⟩) 1 1)
    (hc : w0.cell? ⟨g, 0, none⟩ = some (.int .i64 n)) (hown : OwnI e B w0 v xs) (hlen : xs.length < 1000000000) (hB : B ≤ w0.heap.size)
    (h : ∀ v' w', OwnI e B w' v' (xs ++ [n]) → w0.grownBy w' v.ownBlock → (v'.ownBlock = v.ownBlock ∨ v'.ownBlock = some w0.heap.size) → (∃ ad n cap, v' = .slice (some ad) n cap) → K (a.put o.dst v') w') :
    if Region.wanted o (yielded ops a.tmps) = true then Oper.wp P o a w0 K Q else Ep := by
  obtain ⟨i0, hi0, hz0, hz1, hz2⟩ := info_parts hinfo
  refine step_append_lies (w := w0) hgd s x t ho B e i0 (.int .i64 0) 1 8 ht hi0 hz0 hz1 hz2 rfl (by decide) v xs.length (ints xs) hs hown ⟨g, 0, none⟩ 1 1 [.int .i64 n] hx rfl ?_ ?_ (by decide) ?_ ?_ hB _ rfl ?_
  · intro j u hu
    match j, hu with
    | 0, hu =>
      simp only [List.getElem?_cons_zero, Option.some.injEq] at hu
      subst hu
      rw [Go.WideShapes.add_plain]
      exact hc
  · intro q hq; simp at hq; subst hq; rfl
  · unfold maxLen; omega
  · omega
  · intro g' cap' w' ho' hg hat hglt
    have e1 : (xs ++ [n]).length = xs.length + 1 := by simp
    have e2 : ints (xs ++ [n]) = ints xs ++ [.int .i64 n] := by simp [ints]
    refine h _ w' ?_ hg ?_ ⟨_, _, _, rfl⟩
    · unfold OwnI; rw [e1, e2]; exact ho'
    · rcases hat with h1 | h1
      · left; rw [h1]; rfl
      · right; rw [h1]; rfl
theorem step_push_T {P : Program} {ops : Array Oper} {o : Oper} {a : Act} {K : Act → World → Prop} {Qx : Exit → Act → World → Prop} {Ep : Prop} {e : TypeId} {lo bt bp : Nat} {wr w0 : World} {vt vq vt2 vq2 : Value} {T Q : List Int}
    (M : MidAt e lo bt bp wr w0 vt vq vt2 vq2 T Q) (hgd : o.guard = none) (s x : Operand) (t : TypeId)
    (ho : o.op = .call { callee := .builtin .append, args := #[s, x], argTypes := #[t, t] })
    (ht : P.underlying t = some (.slice e)) (hinfo : (P.info? e).map (fun i => (i.zero, i.size, i.bytes)) = some (some (.int .i64 0), 1, 8))
    (n : Int) (g : Nat) (hs : a.eval s = vt2) (hx : a.eval x = .slice (some ⟨g, 0, none⟩) 1 1)
    (hc : w0.cell? ⟨g, 0, none⟩ = some (.int .i64 n)) (hlen : T.length < 1000000000) (hB : lo ≤ wr.heap.size)
    (h : ∀ v' w', MidAt e lo bt bp wr w' vt vq v' vq2 (T ++ [n]) Q → w0.grownBy w' vt2.ownBlock → w0.heap.size ≤ w'.heap.size → K (a.put o.dst v') w') :
    if Region.wanted o (yielded ops a.tmps) = true then Oper.wp P o a w0 K Qx else Ep :=
  step_push_i hgd s x t ho ht hinfo lo vt2 T n g w0 hs hx hc M.ot hlen (Nat.le_trans hB M.up.size) (fun v' w' ho' hg hat hs' => h v' w' (M.pushT ho' hg hat hs') hg hg.size)
theorem step_push_Q {P : Program} {ops : Array Oper} {o : Oper} {a : Act} {K : Act → World → Prop} {Qx : Exit → Act → World → Prop} {Ep : Prop} {e : TypeId} {lo bt bp : Nat} {wr w0 : World} {vt vq vt2 vq2 : Value} {T Q : List Int}
    (M : MidAt e lo bt bp wr w0 vt vq vt2 vq2 T Q) (hgd : o.guard = none) (s x : Operand) (t : TypeId)
    (ho : o.op = .call { callee := .builtin .append, args := #[s, x], argTypes := #[t, t] })
    (ht : P.underlying t = some (.slice e)) (hinfo : (P.info? e).map (fun i => (i.zero, i.size, i.bytes)) = some (some (.int .i64 0), 1, 8))
    (n : Int) (g : Nat) (hs : a.eval s = vq2) (hx : a.eval x = .slice (some ⟨g, 0, none⟩) 1 1)
    (hc : w0.cell? ⟨g, 0, none⟩ = some (.int .i64 n)) (hlen : Q.length < 1000000000) (hB : lo ≤ wr.heap.size)
    (h : ∀ v' w', MidAt e lo bt bp wr w' vt vq vt2 v' T (Q ++ [n]) → w0.grownBy w' vq2.ownBlock → w0.heap.size ≤ w'.heap.size → K (a.put o.dst v') w') :
    if Region.wanted o (yielded ops a.tmps) = true then Oper.wp P o a w0 K Qx else Ep :=
  step_push_i hgd s x t ho ht hinfo lo vq2 Q n g w0 hs hx hc M.op hlen (Nat.le_trans hB M.up.size) (fun v' w' ho' hg hat hs' => h v' w' (M.pushQ ho' hg hat hs') hg hg.size)
theorem rowsOf_back {n bt bp : Nat} {vt vq vt2 vq2 : Value} (h1 : NextV n vt vt2) (h2 : NextV n vq vq2) (i : Nat) (hi : i < n) (d : rowsOf bt bp vt2 vq2 i) : rowsOf bt bp vt vq i := by
  rcases d with d | d | d | d
  · exact Or.inl d
  · exact Or.inr (Or.inl d)
  · rcases h1 with e | e
    · exact Or.inr (Or.inr (Or.inl (e ▸ d)))
    · have := e i d; omega
  · rcases h2 with e | e
    · exact Or.inr (Or.inr (Or.inr (e ▸ d)))
    · have := e i d; omega
end Go.RowKit
