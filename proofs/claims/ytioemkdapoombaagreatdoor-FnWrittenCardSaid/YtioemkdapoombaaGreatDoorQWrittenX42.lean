/- The law WrittenX: what it rests on, part 42 of 46. -/
import Derived.Test.YtioemkdapoombaaGreatDoorQWrittenX30
namespace Go.RowKit
open Go.ChangeShapes Go.WideShapes Go.ChangeAt
set_option linter.unusedVariables false
/-- only blocks of D, and new ones, differ -/
structure UpdS (D : Nat → Prop) (w w' : World) : Prop where
  os : w'.os = w.os
  tape : w'.tape = w.tape
  output : w'.output = w.output
  size : w.heap.size ≤ w'.heap.size
  block : ∀ k, k < w.heap.size → ¬ D k → w'.heap[k]? = w.heap[k]?
theorem UpdS.trans {D D' : Nat → Prop} {a b c : World} (h : UpdS D a b) (k : UpdS D' b c) (hD : ∀ i, i < a.heap.size → D' i → D i) : UpdS D a c :=
  ⟨k.os.trans h.os, k.tape.trans h.tape, k.output.trans h.output, Nat.le_trans h.size k.size, fun i hi hn => (k.block i (Nat.lt_of_lt_of_le hi h.size) (fun d => hn (hD i hi d))).trans (h.block i hi hn)⟩
theorem UpdS.refl (D : Nat → Prop) (a : World) : UpdS D a a := ⟨rfl, rfl, rfl, Nat.le_refl _, fun _ _ _ => rfl⟩
theorem UpdS.of_below {D : Nat → Prop} {a b : World} (h : Below a.heap.size a b) : UpdS D a b := ⟨h.os, h.tape, h.output, h.size, fun k hk _ => h.block k hk⟩
theorem UpdS.of_grown {D : Nat → Prop} {a b : World} {r : Option Nat} (h : a.grownBy b r) (hr : ∀ k, r = some k → D k) : UpdS D a b :=
  ⟨h.os, h.tape, h.output, h.size, fun k hk hn => h.block k hk (fun e => hn (hr k e.symm))⟩
theorem UpdS.of_set {D : Nat → Prop} {a : World} {g j : Nat} (u : Value) (hD : D g) : UpdS D a (a.setCell ⟨g, j, none⟩ u) :=
  ⟨rfl, rfl, rfl, by simp, fun k _ hn => heap_setCell_other a _ k _ (fun e => hn (by have e' : k = g := e; subst e'; exact hD))⟩
theorem UpdS.upd {D : Nat → Prop} {lo hi : Nat} {a b : World} (h : UpdS D a b) (hD : ∀ k, k < a.heap.size → D k → lo ≤ k ∧ k < hi) : Upd lo hi a b :=
  ⟨h.os, h.tape, h.output, h.size, fun k hk hl => h.block k hl (fun d => by have := hD k hl d; omega)⟩
theorem UpdS.cell {D : Nat → Prop} {a b : World} (h : UpdS D a b) {bl o : Nat} {v : Value} (k : a.cell? ⟨bl, o, none⟩ = some v) (hn : ¬ D bl) : b.cell? ⟨bl, o, none⟩ = some v :=
  (World.cell?_of_block (w := a) (h.block bl (World.block_lt_of_cell? a _ k) hn)).trans k
theorem UpdS.rd {D : Nat → Prop} {a b : World} {v : Value} {xs : List Int} (h : UpdS D a b) (k : RdI a v xs) (hn : ∀ b, v.ownBlock = some b → ¬ D b) : RdI b v xs := by
  obtain ⟨ad, cap, rfl, hl, hc⟩ := k
  refine ⟨ad, cap, rfl, hl, fun i hi => ?_⟩
  obtain ⟨bl, off, rfl, hcell⟩ := hc i hi
  exact ⟨bl, off, rfl, h.cell hcell (hn bl rfl)⟩
/-- a row's next value: in the row's block, or in a new one -/
def NextV (n : Nat) (v v' : Value) : Prop := v'.ownBlock = v.ownBlock ∨ ∀ b, v'.ownBlock = some b → n ≤ b
theorem NextV.refl (n : Nat) (v : Value) : NextV n v v := Or.inl rfl
theorem NextV.trans {n : Nat} {a b c : Value} (h : NextV n a b) (k : NextV n b c) : NextV n a c := by
  rcases k with k | k
  · rcases h with h | h
    · exact Or.inl (k.trans h)
    · exact Or.inr (fun q hq => h q (k ▸ hq))
  · exact Or.inr k
def rowsOf (bt bp : Nat) (vt vq : Value) (k : Nat) : Prop := k = bt ∨ k = bp ∨ vt.ownBlock = some k ∨ vq.ownBlock = some k
/-- two rows, their values in two boxes -/
structure TwoAt (E : TypeId) (lo bt bp : Nat) (w : World) (vt vq : Value) (T Q : List Int) : Prop where
  ct : w.cell? ⟨bt, 0, none⟩ = some vt
  ft : w.frozen? ⟨bt, 0, none⟩ = false
  cp : w.cell? ⟨bp, 0, none⟩ = some vq
  fp : w.frozen? ⟨bp, 0, none⟩ = false
  ot : OwnI E lo w vt T
  op : OwnI E lo w vq Q
  st : ∃ ad n cap, vt = .slice (some ad) n cap
  sp : ∃ ad n cap, vq = .slice (some ad) n cap
  nt : ∀ b, vt.ownBlock = some b → b ≠ bt ∧ b ≠ bp ∧ vq.ownBlock ≠ some b
  np : ∀ b, vq.ownBlock = some b → b ≠ bt ∧ b ≠ bp
  ne : bt ≠ bp
/-- amid a step: the boxes still hold the rows' elder values -/
structure MidAt (E : TypeId) (lo bt bp : Nat) (wr w : World) (vt vq vt2 vq2 : Value) (T2 Q2 : List Int) : Prop where
  ct : w.cell? ⟨bt, 0, none⟩ = some vt
  ft : w.frozen? ⟨bt, 0, none⟩ = false
  cp : w.cell? ⟨bp, 0, none⟩ = some vq
  fp : w.frozen? ⟨bp, 0, none⟩ = false
  ot : OwnI E lo w vt2 T2
  op : OwnI E lo w vq2 Q2
  st : ∃ ad n cap, vt2 = .slice (some ad) n cap
  sp : ∃ ad n cap, vq2 = .slice (some ad) n cap
  nt : ∀ b, vt2.ownBlock = some b → b ≠ bt ∧ b ≠ bp ∧ vq2.ownBlock ≠ some b
  np : ∀ b, vq2.ownBlock = some b → b ≠ bt ∧ b ≠ bp
  ne : bt ≠ bp
  xt : NextV wr.heap.size vt vt2
  xp : NextV wr.heap.size vq vq2
  up : UpdS (rowsOf bt bp vt vq) wr w
theorem TwoAt.mid {E : TypeId} {lo bt bp : Nat} {w : World} {vt vq : Value} {T Q : List Int} (h : TwoAt E lo bt bp w vt vq T Q) : MidAt E lo bt bp w w vt vq vt vq T Q :=
  ⟨h.ct, h.ft, h.cp, h.fp, h.ot, h.op, h.st, h.sp, h.nt, h.np, h.ne, NextV.refl _ _, NextV.refl _ _, UpdS.refl _ _⟩
theorem cellB {a b : World} (hb : Below a.heap.size a b) {bl o : Nat} {v : Value} (k : a.cell? ⟨bl, o, none⟩ = some v) : b.cell? ⟨bl, o, none⟩ = some v :=
  (hb.cell (p := ⟨bl, o, none⟩) (World.block_lt_of_cell? a _ k)).trans k
theorem frozB {a b : World} (hb : Below a.heap.size a b) {bl o : Nat} {v : Value} (k : a.cell? ⟨bl, o, none⟩ = some v) (hf : a.frozen? ⟨bl, o, none⟩ = false) : b.frozen? ⟨bl, o, none⟩ = false :=
  (World.frozen?_of_block (w := a) (hb.block bl (World.block_lt_of_cell? a _ k))).trans hf
theorem TwoAt.below {E : TypeId} {lo bt bp : Nat} {w w' : World} {vt vq : Value} {T Q : List Int} (h : TwoAt E lo bt bp w vt vq T Q) (hb : Below w.heap.size w w') : TwoAt E lo bt bp w' vt vq T Q :=
  ⟨cellB hb h.ct, frozB hb h.ct h.ft, cellB hb h.cp, frozB hb h.cp h.fp, h.ot.below hb, h.op.below hb, h.st, h.sp, h.nt, h.np, h.ne⟩
theorem MidAt.below {E : TypeId} {lo bt bp : Nat} {wr w w' : World} {vt vq vt2 vq2 : Value} {T Q : List Int} (h : MidAt E lo bt bp wr w vt vq vt2 vq2 T Q) (hb : Below w.heap.size w w') : MidAt E lo bt bp wr w' vt vq vt2 vq2 T Q :=
  ⟨cellB hb h.ct, frozB hb h.ct h.ft, cellB hb h.cp, frozB hb h.cp h.fp, h.ot.below hb, h.op.below hb, h.st, h.sp, h.nt, h.np, h.ne, h.xt, h.xp, h.up.trans (UpdS.of_below hb) (fun _ _ d => d)⟩
theorem OwnI.far {E : TypeId} {B : Nat} {a b : World} {v : Value} {xs : List Int} {r : Option Nat} (h : OwnI E B a v xs) (hg : a.grownBy b r) (hne : ∀ k, v.ownBlock = some k → r ≠ some k) : OwnI E B b v xs :=
  owns_block h fun k hk => hg.block k (World.ownsRow.lt h k hk).2 (fun hb => hne k hk hb.symm)
theorem OwnI.setFar {E : TypeId} {B g j : Nat} {a : World} {v : Value} {xs : List Int} (h : OwnI E B a v xs) (hne : ∀ k, v.ownBlock = some k → k ≠ g) (u : Value) : OwnI E B (a.setCell ⟨g, j, none⟩ u) v xs :=
  owns_block h fun k hk => heap_setCell_other a _ k _ (fun e => hne k hk (by exact e))
theorem MidAt.stored {E : TypeId} {lo bt bp : Nat} {wr w : World} {vt vq vt2 vq2 : Value} {T Q : List Int} (h : MidAt E lo bt bp wr w vt vq vt2 vq2 T Q) :
    TwoAt E lo bt bp ((w.setCell ⟨bt, 0, none⟩ vt2).setCell ⟨bp, 0, none⟩ vq2) vt2 vq2 T Q ∧ NextV wr.heap.size vt vt2 ∧ NextV wr.heap.size vq vq2 ∧ UpdS (rowsOf bt bp vt vq) wr ((w.setCell ⟨bt, 0, none⟩ vt2).setCell ⟨bp, 0, none⟩ vq2) := by
  have hne := h.ne
  have e1 : (w.setCell ⟨bt, 0, none⟩ vt2).cell? ⟨bt, 0, none⟩ = some vt2 := World.cell?_setCell_same w _ _ h.ct
  have e2 : (w.setCell ⟨bt, 0, none⟩ vt2).cell? ⟨bp, 0, none⟩ = some vq := (World.cell?_setCell_other _ _ _ _ (fun e => by cases e; exact hne rfl)).trans h.cp
  refine ⟨⟨(World.cell?_setCell_other _ _ _ _ (fun e => by cases e; exact hne rfl)).trans e1, by rw [World.frozen?_setCell, World.frozen?_setCell]; exact h.ft, World.cell?_setCell_same _ _ _ e2, by rw [World.frozen?_setCell, World.frozen?_setCell]; exact h.fp, (h.ot.setFar (fun k hk => (h.nt k hk).1) _).setFar (fun k hk => (h.nt k hk).2.1) _, (h.op.setFar (fun k hk => (h.np k hk).1) _).setFar (fun k hk => (h.np k hk).2) _, h.st, h.sp, h.nt, h.np, h.ne⟩, h.xt, h.xp, (h.up.trans (UpdS.of_set (D := rowsOf bt bp vt vq) _ (Or.inl rfl)) (fun _ _ d => d)).trans (UpdS.of_set (D := rowsOf bt bp vt vq) _ (Or.inr (Or.inl rfl))) (fun _ _ d => d)⟩
end Go.RowKit
