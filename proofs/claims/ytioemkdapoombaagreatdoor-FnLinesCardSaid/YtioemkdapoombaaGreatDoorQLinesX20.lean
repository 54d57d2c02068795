/- The law LinesX: what it rests on, part 20 of 46. -/
import Derived.Test.YtioemkdapoombaaGreatDoorQLinesX19
import Derived.Test.YtioemkdapoombaaGreatDoorQLinesX15
section
namespace Go.RowKit
variable {α : Type} {row : α → List Value}
theorem push_rows {P : Program} {ops : Array Oper} {rest : List Oper} {o : Oper} {a : Act} {Q : Exit → Act → World → Prop} (hgd : o.guard = none) (s x : Operand) (t e : TypeId)
    (ho : o.op = .call { callee := .builtin .append, args := #[s, x], argTypes := #[t, t] })
    (ht : P.underlying t = some (.slice e)) (z : Value) (bytes : Nat) (hinfo : (P.info? e).map (fun i => (i.zero, i.size, i.bytes)) = some (some z, 1, bytes)) (hzs : z.cells.size = 1) (hby : bytes ≤ 1000)
    (hrow : ∀ x, (row x).length = 1) (hone : ∀ x, ∀ u ∈ row x, u.oneCell' = true) (lo hi : Nat) (v u : Value) (xs ys : List α) (w0 : World) (hs : a.eval s = v) (hx : a.eval x = u)
    (hown : OwnRow e 1 row lo hi w0 v xs) (hv : ∃ ad n cap, v = .slice (some ad) n cap) (hr : RdRow 1 row w0 u ys) (hlen : xs.length + ys.length < 1000000000) (hB : lo ≤ w0.heap.size)
    (h : ∀ v' w', OwnRow e 1 row lo w'.heap.size w' v' (xs ++ ys) → w0.grownBy w' v.ownBlock → (v'.ownBlock = v.ownBlock ∨ v'.ownBlock = some w0.heap.size) → w0.heap.size ≤ w'.heap.size → wpList P ops Q rest (a.put o.dst v') w') :
    wpList P ops Q (o :: rest) a w0 := by
  obtain ⟨i0, hi0, hz0, hz1, hz2⟩ := info_parts hinfo
  have e1 : (xs ++ ys).length = xs.length + ys.length := by simp
  have e2 : (xs ++ ys).flatMap row = xs.flatMap row ++ ys.flatMap row := by simp
  have hyl : (ys.flatMap row).length = ys.length * 1 := flat_len hrow ys
  obtain ⟨au, cu, rfl, hul, huc⟩ := hr
  cases au with
  | none =>
    have hys : ys = [] := by
      cases ys with
      | nil => rfl
      | cons y ys => obtain ⟨b, off, hb, _⟩ := huc 0 (by simp); cases hb
    subst hys
    obtain ⟨ad, n0, cap0, hvv⟩ := hv
    rcases hown.1.2 with ⟨hnil, _⟩ | ⟨g, cap, cur, hve, hg, hh, hn, hm, hcs, hcells⟩
    · rw [hvv] at hnil; cases hnil
    · subst hve
      refine wpList_plain hgd fun K hK => ?_
      have hrun := run_append_room_src (P := P) w0 t t o.type e i0 ht hi0 g 0 xs.length cap (.slice none ([] : List α).length cu) 0 [] (Src.ofNil w0 ht cu) (by omega) (fun j hj => by simp at hj) (fun j hj => by simp at hj)
      unfold Oper.wp execOp
      simp only [ho, resolve, invoke, builtin, Sem.run_bind, Sem.run_pure, Result.andThen_ok, List.map_toArray, List.map_cons, List.map_nil, hs, hx, hrun]
      exact hK _ _ (h _ _ (by rw [List.append_nil]; exact hown.tight) (grownBy_refl _ _) (Or.inl rfl) (Nat.le_refl _))
  | some ad =>
    refine wpList_append_own_at _ hgd s x t ho lo e i0 z 1 bytes ht hi0 hz0 hz1 hz2 hzs (by decide) v xs.length (xs.flatMap row) hs hown.1 ad ys.length cu (ys.flatMap row) hx hyl ?_ ?_ ?_ ?_ hB ?_
    · intro j u hu
      have hj : j < ys.length := by have := (List.getElem?_eq_some_iff.1 hu).1; omega
      obtain ⟨b, off, hb, hc⟩ := huc j hj
      cases hb
      have hadd : (⟨b, off, none⟩ : Addr).add j = ⟨b, off + j, none⟩ := by unfold Addr.add; split <;> simp_all
      have hg := flat_get hrow ys j 0 hj (by decide)
      rw [Nat.mul_one, Nat.add_zero, hu] at hg
      have := hc 0 u hg.symm
      rw [hadd]
      simpa using this
    · intro u hu
      obtain ⟨y, _, hy⟩ := List.mem_flatMap.1 hu
      exact hone y u hy
    · unfold maxLen; omega
    · have h1 : (xs.length + ys.length) * bytes ≤ 1000000000 * 1000 := Nat.mul_le_mul (by omega) hby
      omega
    · intro v' w' ho' hg _ hat
      refine h v' w' ⟨?_, fun k hk => (World.ownsRow.lt ho' k hk).2⟩ hg hat hg.size
      rw [e1, e2]
      exact ho'
/-- a slice of int64 that is read, whose room is known -/
def RdC (w : World) (v : Value) (xs : List Int) : Prop := RdI w v xs ∧ ∃ a cap, v = .slice a xs.length cap ∧ xs.length ≤ cap
theorem RdC.below {a b : World} {v : Value} {xs : List Int} (h : RdC a v xs) (hb : Below a.heap.size a b) : RdC b v xs := ⟨h.1.below hb, h.2⟩
theorem OwnI.rdc {B : Nat} {E : TypeId} {a : World} {v : Value} {xs : List Int} (h : OwnI E B a v xs) : RdC a v xs := by
  refine ⟨h.rd, ?_⟩
  rcases h.shape with ⟨rfl, rfl⟩ | ⟨g, cap, rfl, _, _, hl, _⟩
  · exact ⟨none, 0, rfl, Nat.le_refl _⟩
  · exact ⟨_, cap, rfl, hl⟩
theorem RdC.cut {w : World} {a : Option Addr} {n cap : Nat} {xs : List Int} (h : RdC w (.slice a n cap) xs) (l r : Nat) (hl : l ≤ r) (hr : r ≤ xs.length) :
    n = xs.length ∧ n ≤ cap ∧ RdC w (sliced a l r cap 1) ((xs.take r).drop l) := by
  obtain ⟨⟨a1, c1, e1, hlen, hc⟩, a2, c2, e2, hcap⟩ := h
  cases e1; cases e2
  refine ⟨rfl, hcap, ⟨?_, ?_⟩⟩
  · refine ⟨_, _, by unfold sliced; rw [List.length_drop, List.length_take, Nat.min_eq_left hr], by rw [List.length_drop, List.length_take]; omega, fun k hk => ?_⟩
    rw [List.length_drop, List.length_take, Nat.min_eq_left hr] at hk
    obtain ⟨b, off, ha, hx⟩ := hc (l + k) (by omega)
    subst ha
    have hne : ¬ cap = l := by omega
    refine ⟨b, off + l, ?_, ?_⟩
    · rw [if_neg hne, Option.map_some, Nat.mul_one]
      have hadd : (⟨b, off, none⟩ : Addr).add l = ⟨b, off + l, none⟩ := by unfold Addr.add; split <;> simp_all
      rw [hadd]
    · rw [Nat.add_assoc, hx]
      simp only [List.getD_eq_getElem?_getD, List.getElem?_drop, List.getElem?_take]
      rw [if_pos (by omega)]
  · exact ⟨_, _, by unfold sliced; rw [List.length_drop, List.length_take, Nat.min_eq_left hr], by rw [List.length_drop, List.length_take]; omega⟩
end Go.RowKit
namespace Go.Proofs.YtioemkdapoombaaGreatDoor
open Go.ChangeShapes Go.WideShapes Go.ChangeAt Go.RowKit
set_option linter.unusedVariables false
theorem elemI : Tryz.prog.underlying 26 = some (.slice (Tryz.prog.elem 26)) := by kernel_rfl
theorem sizeI (w : World) : (sizeOf (Tryz.prog.elem 26)).run Tryz.prog w = .ok 1 w := by kernel_rfl
/-- a part of a slice: both bounds, the upper one alone, the lower one alone -/
theorem cut_lr {w : World} {v : Value} {xs : List Int} (h : RdC w v xs) (l r : Nat) (hl : l ≤ r) (hr : r ≤ xs.length) :
    ∃ u, (∀ w', (Instr.slice 26 v (some (.int .i64 l)) (some (.int .i64 r)) none).run Tryz.prog w' = .ok u w') ∧ RdC w u ((xs.take r).drop l) := by
  obtain ⟨a, cap, rfl, hc⟩ := h.2
  have hk := h.cut l r hl hr
  refine ⟨_, fun w' => ?_, hk.2.2⟩
  rw [run_slice_lh w' _ _ _ _ elemI _ _ _ _ (by omega) (by omega) (by omega), sizeI, Result.andThen_ok]
  rfl
theorem cut_lrI {w : World} {v : Value} {xs : List Int} (h : RdC w v xs) (l r : Int) (h0 : 0 ≤ l) (hl : l ≤ r) (hr : r ≤ xs.length) :
    ∃ u, (∀ w', (Instr.slice 26 v (some (.int .i64 l)) (some (.int .i64 r)) none).run Tryz.prog w' = .ok u w') ∧ RdC w u ((xs.take r.toNat).drop l.toNat) := by
  have := cut_lr h l.toNat r.toNat (by omega) (by omega)
  rw [Int.toNat_of_nonneg h0, Int.toNat_of_nonneg (show 0 ≤ r by omega)] at this
  exact this
/-- one text in a block of its own -/
theorem oneText (w : World) (s : ByteArray) : OwnT w.heap.size (w.heap.size + 1) (w.alloc (.cells #[.string s] 9)) (.slice (some ⟨w.heap.size, 0, none⟩) 1 1) [s] := by
  refine ⟨?_, fun k hk => ?_⟩
  · exact World.ownsRow_lit w #[.string s] 1 (Nat.le_refl _) (by decide) rfl
  · simp only [Value.ownBlock, Option.some.injEq] at hk
    omega
end Go.Proofs.YtioemkdapoombaaGreatDoor
end
section
namespace Go.RowKit
open Go.ChangeShapes Go.WideShapes Go.ChangeAt
set_option linter.unusedVariables false
/-- only blocks of D, and new ones, differ -/
structure UpdS (D : Nat → Prop) (w w' : World) : Prop where
  os : w'.os = w.os
  tape : w'.tape = w.tape
  output : w'.output = w.output
  size : w.heap.size ≤ w'.heap.size
  block : ∀ k, k < w.heap.size → ¬ D k → w'.heap[k]? = w.heap[k]?
theorem UpdS.trans {D D' : Nat → Prop} {a b c : World} (h : UpdS D a b) (k : UpdS D' b c) (hD : ∀ i, i < a.heap.size → D' i → D i) : UpdS D a c :=
  ⟨k.os.trans h.os, k.tape.trans h.tape, k.output.trans h.output, Nat.le_trans h.size k.size, fun i hi hn => (k.block i (Nat.lt_of_lt_of_le hi h.size) (fun d => hn (hD i hi d))).trans (h.block i hi hn)⟩
theorem UpdS.refl (D : Nat → Prop) (a : World) : UpdS D a a := ⟨rfl, rfl, rfl, Nat.le_refl _, fun _ _ _ => rfl⟩
theorem UpdS.of_below {D : Nat → Prop} {a b : World} (h : Below a.heap.size a b) : UpdS D a b := ⟨h.os, h.tape, h.output, h.size, fun k hk _ => h.block k hk⟩
theorem UpdS.of_grown {D : Nat → Prop} {a b : World} {r : Option Nat} (h : a.grownBy b r) (hr : ∀ k, r = some k → D k) : UpdS D a b :=
  ⟨h.os, h.tape, h.output, h.size, fun k hk hn => h.block k hk (fun e => hn (hr k e.symm))⟩
theorem UpdS.of_set {D : Nat → Prop} {a : World} {g j : Nat} (u : Value) (hD : D g) : UpdS D a (a.setCell ⟨g, j, none⟩ u) :=
  ⟨rfl, rfl, rfl, by simp, fun k _ hn => heap_setCell_other a _ k _ (fun e => hn (by have e' : k = g := e; subst e'; exact hD))⟩
theorem UpdS.upd {D : Nat → Prop} {lo hi : Nat} {a b : World} (h : UpdS D a b) (hD : ∀ k, k < a.heap.size → D k → lo ≤ k ∧ k < hi) : Upd lo hi a b :=
  ⟨h.os, h.tape, h.output, h.size, fun k hk hl => h.block k hl (fun d => by have := hD k hl d; omega)⟩
theorem UpdS.cell {D : Nat → Prop} {a b : World} (h : UpdS D a b) {bl o : Nat} {v : Value} (k : a.cell? ⟨bl, o, none⟩ = some v) (hn : ¬ D bl) : b.cell? ⟨bl, o, none⟩ = some v :=
  (World.cell?_of_block (w := a) (h.block bl (World.block_lt_of_cell? a _ k) hn)).trans k
theorem UpdS.rd {D : Nat → Prop} {a b : World} {v : Value} {xs : List Int} (h : UpdS D a b) (k : RdI a v xs) (hn : ∀ b, v.ownBlock = some b → ¬ D b) : RdI b v xs := by
  obtain ⟨ad, cap, rfl, hl, hc⟩ := k
  refine ⟨ad, cap, rfl, hl, fun i hi => ?_⟩
  obtain ⟨bl, off, rfl, hcell⟩ := hc i hi
  exact ⟨bl, off, rfl, h.cell hcell (hn bl rfl)⟩
/-- a row's next value: in the row's block, or in a new one -/
def NextV (n : Nat) (v v' : Value) : Prop := v'.ownBlock = v.ownBlock ∨ ∀ b, v'.ownBlock = some b → n ≤ b
theorem NextV.refl (n : Nat) (v : Value) : NextV n v v := Or.inl rfl
theorem NextV.trans {n : Nat} {a b c : Value} (h : NextV n a b) (k : NextV n b c) : NextV n a c := by
  rcases k with k | k
  · rcases h with h | h
    · exact Or.inl (k.trans h)
    · exact Or.inr (fun q hq => h q (k ▸ hq))
  · exact Or.inr k
def rowsOf (bt bp : Nat) (vt vq : Value) (k : Nat) : Prop := k = bt ∨ k = bp ∨ vt.ownBlock = some k ∨ vq.ownBlock = some k
/-- two rows, their values in two boxes -/
structure TwoAt (E : TypeId) (lo bt bp : Nat) (w : World) (vt vq : Value) (T Q : List Int) : Prop where
  ct : w.cell? ⟨bt, 0, none⟩ = some vt
  ft : w.frozen? ⟨bt, 0, none⟩ = false
  cp : w.cell? ⟨bp, 0, none⟩ = some vq
  fp : w.frozen? ⟨bp, 0, none⟩ = false
  ot : OwnI E lo w vt T
  op : OwnI E lo w vq Q
  st : ∃ ad n cap, vt = .slice (some ad) n cap
  sp : ∃ ad n cap, vq = .slice (some ad) n cap
  nt : ∀ b, vt.ownBlock = some b → b ≠ bt ∧ b ≠ bp ∧ vq.ownBlock ≠ some b
  np : ∀ b, vq.ownBlock = some b → b ≠ bt ∧ b ≠ bp
  ne : bt ≠ bp
/-- amid a step: the boxes still hold the rows' elder values -/
structure MidAt (E : TypeId) (lo bt bp : Nat) (wr w : World) (vt vq vt2 vq2 : Value) (T2 Q2 : List Int) : Prop where
  ct : w.cell? ⟨bt, 0, none⟩ = some vt
  ft : w.frozen? ⟨bt, 0, none⟩ = false
  cp : w.cell? ⟨bp, 0, none⟩ = some vq
  fp : w.frozen? ⟨bp, 0, none⟩ = false
  ot : OwnI E lo w vt2 T2
  op : OwnI E lo w vq2 Q2
  st : ∃ ad n cap, vt2 = .slice (some ad) n cap
  sp : ∃ ad n cap, vq2 = .slice (some ad) n cap
  nt : ∀ b, vt2.ownBlock = some b → b ≠ bt ∧ b ≠ bp ∧ vq2.ownBlock ≠ some b
  np : ∀ b, vq2.ownBlock = some b → b ≠ bt ∧ b ≠ bp
  ne : bt ≠ bp
  xt : NextV wr.heap.size vt vt2
  xp : NextV wr.heap.size vq vq2
  up : UpdS (rowsOf bt bp vt vq) wr w
theorem TwoAt.mid {E : TypeId} {lo bt bp : Nat} {w : World} {vt vq : Value} {T Q : List Int} (h : TwoAt E lo bt bp w vt vq T Q) : MidAt E lo bt bp w w vt vq vt vq T Q :=
  ⟨h.ct, h.ft, h.cp, h.fp, h.ot, h.op, h.st, h.sp, h.nt, h.np, h.ne, NextV.refl _ _, NextV.refl _ _, UpdS.refl _ _⟩
theorem cellB {a b : World} (hb : Below a.heap.size a b) {bl o : Nat} {v : Value} (k : a.cell? ⟨bl, o, none⟩ = some v) : b.cell? ⟨bl, o, none⟩ = some v :=
  (hb.cell (p := ⟨bl, o, none⟩) (World.block_lt_of_cell? a _ k)).trans k
theorem frozB {a b : World} (hb : Below a.heap.size a b) {bl o : Nat} {v : Value} (k : a.cell? ⟨bl, o, none⟩ = some v) (hf : a.frozen? ⟨bl, o, none⟩ = false) : b.frozen? ⟨bl, o, none⟩ = false :=
  (World.frozen?_of_block (w := a) (hb.block bl (World.block_lt_of_cell? a _ k))).trans hf
theorem TwoAt.below {E : TypeId} {lo bt bp : Nat} {w w' : World} {vt vq : Value} {T Q : List Int} (h : TwoAt E lo bt bp w vt vq T Q) (hb : Below w.heap.size w w') : TwoAt E lo bt bp w' vt vq T Q :=
  ⟨cellB hb h.ct, frozB hb h.ct h.ft, cellB hb h.cp, frozB hb h.cp h.fp, h.ot.below hb, h.op.below hb, h.st, h.sp, h.nt, h.np, h.ne⟩
theorem MidAt.below {E : TypeId} {lo bt bp : Nat} {wr w w' : World} {vt vq vt2 vq2 : Value} {T Q : List Int} (h : MidAt E lo bt bp wr w vt vq vt2 vq2 T Q) (hb : Below w.heap.size w w') : MidAt E lo bt bp wr w' vt vq vt2 vq2 T Q :=
  ⟨cellB hb h.ct, frozB hb h.ct h.ft, cellB hb h.cp, frozB hb h.cp h.fp, h.ot.below hb, h.op.below hb, h.st, h.sp, h.nt, h.np, h.ne, h.xt, h.xp, h.up.trans (UpdS.of_below hb) (fun _ _ d => d)⟩
theorem OwnI.far {E : TypeId} {B : Nat} {a b : World} {v : Value} {xs : List Int} {r : Option Nat} (h : OwnI E B a v xs) (hg : a.grownBy b r) (hne : ∀ k, v.ownBlock = some k → r ≠ some k) : OwnI E B b v xs :=
  owns_block h fun k hk => hg.block k (World.ownsRow.lt h k hk).2 (fun hb => hne k hk hb.symm)
theorem OwnI.setFar {E : TypeId} {B g j : Nat} {a : World} {v : Value} {xs : List Int} (h : OwnI E B a v xs) (hne : ∀ k, v.ownBlock = some k → k ≠ g) (u : Value) : OwnI E B (a.setCell ⟨g, j, none⟩ u) v xs :=
  owns_block h fun k hk => heap_setCell_other a _ k _ (fun e => hne k hk (by exact e))
theorem MidAt.stored {E : TypeId} {lo bt bp : Nat} {wr w : World} {vt vq vt2 vq2 : Value} {T Q : List Int} (h : MidAt E lo bt bp wr w vt vq vt2 vq2 T Q) :
    TwoAt E lo bt bp ((w.setCell ⟨bt, 0, none⟩ vt2).setCell ⟨bp, 0, none⟩ vq2) vt2 vq2 T Q ∧ NextV wr.heap.size vt vt2 ∧ NextV wr.heap.size vq vq2 ∧ UpdS (rowsOf bt bp vt vq) wr ((w.setCell ⟨bt, 0, none⟩ vt2).setCell ⟨bp, 0, none⟩ vq2) := by
  have hne := h.ne
  have e1 : (w.setCell ⟨bt, 0, none⟩ vt2).cell? ⟨bt, 0, none⟩ = some vt2 := World.cell?_setCell_same w _ _ h.ct
  have e2 : (w.setCell ⟨bt, 0, none⟩ vt2).cell? ⟨bp, 0, none⟩ = some vq := (World.cell?_setCell_other _ _ _ _ (fun e => by cases e; exact hne rfl)).trans h.cp
  refine ⟨⟨(World.cell?_setCell_other _ _ _ _ (fun e => by cases e; exact hne rfl)).trans e1, by rw [World.frozen?_setCell, World.frozen?_setCell]; exact h.ft, World.cell?_setCell_same _ _ _ e2, by rw [World.frozen?_setCell, World.frozen?_setCell]; exact h.fp, (h.ot.setFar (fun k hk => (h.nt k hk).1) _).setFar (fun k hk => (h.nt k hk).2.1) _, (h.op.setFar (fun k hk => (h.np k hk).1) _).setFar (fun k hk => (h.np k hk).2) _, h.st, h.sp, h.nt, h.np, h.ne⟩, h.xt, h.xp, (h.up.trans (UpdS.of_set (D := rowsOf bt bp vt vq) _ (Or.inl rfl)) (fun _ _ d => d)).trans (UpdS.of_set (D := rowsOf bt bp vt vq) _ (Or.inr (Or.inl rfl))) (fun _ _ d => d)⟩
end Go.RowKit
end
