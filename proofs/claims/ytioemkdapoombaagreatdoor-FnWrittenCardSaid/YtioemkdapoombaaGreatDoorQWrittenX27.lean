/- The law WrittenX: what it rests on, part 27 of 46. -/
import Derived.Test.YtioemkdapoombaaGreatDoorQWrittenX26
import Derived.Deep.AppendLies
import Derived.Deep.RegionHeld3
import Derived.Test.YtioemkdapoombaaGreatDoorRows
import Derived.ProofKit
import Derived.OpenShut
import Derived.ChangeOld
import Derived.Lib.SmallJoins
import Derived.Laws.ResultCell
import Derived.Deep.Slices
import Derived.Test.YtioemkdapoombaaGreatDoorQWrittenX02
import Derived.Test.YtioemkdapoombaaGreatDoorQWrittenX04
import Derived.Test.YtioemkdapoombaaGreatDoorQWrittenX05
import Derived.Test.YtioemkdapoombaaGreatDoorQWrittenX07
import Derived.Deep.RegionHeld
section
namespace Go.Proofs.YtioemkdapoombaaGreatDoor
open Go.ChangeShapes Go.WideShapes Go.ChangeAt Go.RowKit
set_option linter.unusedSimpArgs false
set_option linter.unusedVariables false
def hdW : List ByteArray → Bool
  | a :: _ => bl a == chkW
  | [] => false
/-- whether a line's first word is check (the program's test); .. and more follows it (the reference's) -/
def hdC (s : ByteArray) : Bool := hdW (words s)
theorem ok_e {R : Rc} {s : ByteArray} (h : (lineF R s).1 = 0) : R.e = false := by
  cases he : R.e
  · rfl
  · rw [line_e he] at h; cases h
theorem end_words {s : ByteArray} (h : (s.toList == [101, 110, 100]) = true) : words s = [s] := by
  have h1 : s.toList = [101, 110, 100] := eq_of_beq h
  rw [tl_bl] at h1
  unfold words
  rw [h1]
  show [bsT [101, 110, 100]] = [s]
  rw [← h1, bsT_bl]
/-- the state behind k lines -/
def folR (R : Rc) (ls : List ByteArray) : Nat → Rc
  | 0 => R
  | k + 1 => (lineF (folR R ls k) (ls.getD k ⟨#[]⟩)).2
theorem folR_cons (R : Rc) (s : ByteArray) (ls : List ByteArray) : ∀ k, folR R (s :: ls) (k + 1) = folR (lineF R s).2 ls k
  | 0 => rfl
  | k + 1 => by
    show (lineF (folR R (s :: ls) (k + 1)) ((s :: ls).getD (k + 1) ⟨#[]⟩)).2 = (lineF (folR (lineF R s).2 ls k) (ls.getD k ⟨#[]⟩)).2
    rw [folR_cons R s ls k]; rfl
theorem folR_take (R : Rc) (ls : List ByteArray) (n : Nat) : ∀ k, k ≤ n → folR R (ls.take n) k = folR R ls k
  | 0, _ => rfl
  | k + 1, h => by
    show (lineF (folR R (ls.take n) k) ((ls.take n).getD k ⟨#[]⟩)).2 = (lineF (folR R ls k) (ls.getD k ⟨#[]⟩)).2
    rw [folR_take R ls n k (by omega)]
    congr 2
    simp [List.getD, List.getElem?_take, show k < n by omega]
/-- all lines are right -/
def okL (R : Rc) (ls : List ByteArray) : Prop := ∀ k, k < ls.length → (lineF (folR R ls k) (ls.getD k ⟨#[]⟩)).1 = 0
theorem okL_cons {R : Rc} {s : ByteArray} {ls : List ByteArray} : okL R (s :: ls) ↔ (lineF R s).1 = 0 ∧ okL (lineF R s).2 ls := by
  constructor
  · intro h
    refine ⟨h 0 (by simp), fun k hk => ?_⟩
    have := h (k + 1) (by simpa using hk)
    rw [folR_cons] at this; exact this
  · rintro ⟨h1, h2⟩ k hk
    cases k with
    | zero => exact h1
    | succ k => rw [folR_cons]; exact h2 k (by simpa using hk)
theorem okL_take {R : Rc} {ls : List ByteArray} (h : okL R ls) (n : Nat) : okL R (ls.take n) := fun k hk => by
  rw [List.length_take] at hk
  rw [folR_take R ls n k (by omega)]
  have : (ls.take n).getD k ⟨#[]⟩ = ls.getD k ⟨#[]⟩ := by simp [List.getD, List.getElem?_take, show k < n by omega]
  rw [this]
  exact h k (by omega)
theorem runL_all : ∀ {ls : List ByteArray} {R : Rc} (i : Int), okL R ls → runL R ls i = bif (folR R ls ls.length).e then (-1, 0, folR R ls ls.length) else (i + (ls.length : Int), 6, folR R ls ls.length)
  | [], R, i, _ => by
    show (bif R.e then _ else _) = (bif R.e then _ else _)
    cases R.e <;> simp [folR]
  | s :: ls, R, i, h => by
    obtain ⟨h1, h2⟩ := okL_cons.1 h
    rw [List.length_cons, folR_cons]
    unfold runL
    rw [h1, beq_self_eq_true, cond_true, runL_all (i + 1) h2]
    cases (folR (lineF R s).2 ls ls.length).e
    · simp only [cond_false]
      congr 1
      push_cast
      omega
    · rfl
def plL (X : List ByteArray) : List ByteArray := X.filter (fun s => !hdC s)
end Go.Proofs.YtioemkdapoombaaGreatDoor
end
section
namespace Go.Proofs.YtioemkdapoombaaGreatDoor
open Go.ChangeShapes Go.WideShapes Go.ChangeAt Go.RowKit
set_option linter.unusedSimpArgs false
set_option linter.unusedVariables false
def endT : ByteArray := ⟨#[101, 110, 100]⟩
/-- what a record's plain lines are -/
structure PlW (X : List ByteArray) (s0 : ByteArray) (pl : List ByteArray) (h m : Int) : Prop where
  eq : plL X = s0 :: pl
  st : startF s0 = some (h, m)
  ok : okL (startR h m) pl
  e : (folR (startR h m) pl pl.length).e = true
  pos : 0 < pl.length
  len : pl.length < 60
  last : pl.getD (pl.length - 1) ⟨#[]⟩ = endT
  res : (runF X).2.2 = folR (startR h m) pl pl.length
  bd : ∀ s ∈ s0 :: pl, s ∈ X
  stc : startC X = stk [.int .i64 h, .int .i64 m]
theorem PlW.run {X : List ByteArray} {s0 : ByteArray} {pl : List ByteArray} {h m : Int} (p : PlW X s0 pl h m) (k : Nat) (hk : k < pl.length) : runF ((s0 :: pl).take (k + 1)) = ((k : Int) + 1, 6, folR (startR h m) pl k) := by
  rw [List.take_succ_cons, runF_some p.st, runL_all 1 (okL_take p.ok k)]
  have hl : (pl.take k).length = k := by rw [List.length_take]; omega
  rw [hl, folR_take _ _ _ _ (Nat.le_refl _), ok_e (p.ok k hk)]
  show ((1 : Int) + k, (6 : Int), _) = _
  rw [Int.add_comm]
end Go.Proofs.YtioemkdapoombaaGreatDoor
end
section
section
set_option linter.unusedVariables false
namespace Go.Proofs.YtioemkdapoombaaGreatDoor
open Go.ChangeShapes Go.WideShapes Go.ChangeAt Go.RowKit
section
variable {H : Type} {enc : TypeId × Value → H} {W : World} {base : Nat} {v : Value} {d : DataW H} {p : List MemPlace}
end
end Go.Proofs.YtioemkdapoombaaGreatDoor
end
section
set_option linter.unusedVariables false
namespace Go.Proofs.YtioemkdapoombaaGreatDoor
open Go.ChangeShapes Go.WideShapes Go.ChangeAt Go.RowKit
set_option linter.unusedSimpArgs false
abbrev OwnGG (lo hi : Nat) (w : World) (v : Value) (X : List (List Int)) : Prop := OwnG 26 2 lo hi w v X
theorem infoG1 : (Tryz.prog.info? 26).map (fun i => (i.zero, i.size, i.bytes)) = some (some (.slice none 0 0), 1, 24) := by kernel_rfl
end Go.Proofs.YtioemkdapoombaaGreatDoor
end
end
section
section
set_option linter.unusedVariables false
namespace Go.Proofs.YtioemkdapoombaaGreatDoor
open Go.ChangeShapes Go.WideShapes Go.ChangeAt Go.RowKit
def CellsAt (w : World) (g m : Nat) : Prop := ∀ i, i < m → (∃ u, w.cell? ⟨g, i, none⟩ = some u) ∧ w.frozen? ⟨g, i, none⟩ = false
def FilledTo {α : Type} (sz : Nat) (row : α → List Value) (w : World) (g : Nat) (xs : List α) (k : Nat) : Prop := ∀ i (hi : i < xs.length), i < k → ∀ c u, (row xs[i])[c]? = some u → w.cell? ⟨g, i * sz + c, none⟩ = some u
theorem CellsAt.below {a b : World} {g m : Nat} (h : CellsAt a g m) (hb : Below a.heap.size a b) : CellsAt b g m := fun i hi => by
  obtain ⟨⟨u, hu⟩, hf⟩ := h i hi
  exact ⟨⟨u, keepc hb hu⟩, frozenc hb hu hf⟩
theorem FilledTo.below {α : Type} {sz : Nat} {row : α → List Value} {a b : World} {g : Nat} {xs : List α} {k : Nat} (h : FilledTo sz row a g xs k) (hb : Below a.heap.size a b) : FilledTo sz row b g xs k := fun i hi hk c u hu => keepc hb (h i hi hk c u hu)
theorem FilledTo.rd {α : Type} {sz : Nat} {row : α → List Value} {w : World} {g cap : Nat} {xs : List α} (h : FilledTo sz row w g xs xs.length) (hl : xs.length ≤ 9223372036854775807) : RdRow sz row w (.slice (some ⟨g, 0, none⟩) xs.length cap) xs :=
  ⟨_, _, rfl, hl, fun k hk => ⟨g, 0, rfl, fun c u hu => by rw [Nat.zero_add]; exact h k hk hk c u hu⟩⟩
end Go.Proofs.YtioemkdapoombaaGreatDoor
end
section
set_option linter.unusedVariables false
namespace Go.Proofs.YtioemkdapoombaaGreatDoor
open Go.ChangeShapes Go.WideShapes Go.ChangeAt Go.RowKit
/-- a made slice of the call's own, with some cells -/
def OwnC (E : TypeId) (sz lo : Nat) (w : World) (g n : Nat) : Prop := ∃ cs, w.ownsRow lo E sz (.slice (some ⟨g, 0, none⟩) n n) n cs
theorem OwnC.below {E : TypeId} {sz lo g n : Nat} {a b : World} (h : OwnC E sz lo a g n) (hb : Below a.heap.size a b) : OwnC E sz lo b g n := by
  obtain ⟨cs, h⟩ := h
  exact ⟨cs, owns_below h hb⟩
theorem OwnC.set {E : TypeId} {sz lo g n : Nat} {a : World} (h : OwnC E sz lo a g n) (g' j : Nat) (u : Value) : OwnC E sz lo (a.setCell ⟨g', j, none⟩ u) g n := by
  obtain ⟨cs, h⟩ := h
  by_cases hg : g' = g
  · subst hg
    exact ⟨_, (World.ownsRow.stored h j u).1⟩
  · exact ⟨cs, owns_block h fun k hk => by
      simp only [Value.ownBlock, Option.some.injEq] at hk
      exact heap_setCell_other a ⟨g', j, none⟩ k u (fun e => hg (by rw [hk]; exact e.symm))⟩
end Go.Proofs.YtioemkdapoombaaGreatDoor
end
end
section
namespace Go.Proofs.YtioemkdapoombaaGreatDoor
open Go.ChangeShapes Go.WideShapes Go.ChangeAt Go.RowKit
set_option linter.unusedVariables false
abbrev Part2 := List Int × Int
def RdP (w : World) (v : Value) (X : List Part2) : Prop :=
  ∃ a cap, v = .slice a X.length cap ∧ X.length ≤ 9223372036854775807 ∧ ∀ k (hk : k < X.length), ∃ b off u, a = some ⟨b, off, none⟩ ∧ w.cell? ⟨b, off + k * 2, none⟩ = some u ∧ w.cell? ⟨b, off + k * 2 + 1, none⟩ = some (.int .i64 X[k].2) ∧ RdI w u X[k].1
theorem RdP.below {a b : World} {v : Value} {X : List Part2} (h : RdP a v X) (hb : Below a.heap.size a b) : RdP b v X := by
  obtain ⟨ad, cap, hv, hl, hc⟩ := h
  refine ⟨ad, cap, hv, hl, fun k hk => ?_⟩
  obtain ⟨bl, off, u, ha, h0, h1, hu⟩ := hc k hk
  exact ⟨bl, off, u, ha, keepc hb h0, keepc hb h1, hu.below hb⟩
/-- n parts in block g, their patterns in blocks of their own above it -/
structure OwnP (E : TypeId) (lo : Nat) (w : World) (g : Nat) (X : List Part2) (n k : Nat) (U : Nat → Value) : Prop where
  hlo : lo ≤ g
  cells : CellsAt w g (n * 2)
  get : ∀ i (hi : i < X.length), i < k → w.cell? ⟨g, i * 2, none⟩ = some (U i) ∧ w.cell? ⟨g, i * 2 + 1, none⟩ = some (.int .i64 X[i].2) ∧ OwnI E (g + 1) w (U i) X[i].1
  dis : ∀ i j, i < j → j < k → ∀ b, (U i).ownBlock = some b → (U j).ownBlock ≠ some b
theorem OwnP.below {E : TypeId} {lo : Nat} {a b : World} {g n k : Nat} {X : List Part2} {U : Nat → Value} (h : OwnP E lo a g X n k U) (hb : Below a.heap.size a b) : OwnP E lo b g X n k U :=
  ⟨h.hlo, h.cells.below hb, fun i hi hk => by obtain ⟨h1, h2, h3⟩ := h.get i hi hk; exact ⟨keepc hb h1, keepc hb h2, h3.below hb⟩, h.dis⟩
theorem OwnP.setBelow {E : TypeId} {lo : Nat} {w : World} {g n k : Nat} {X : List Part2} {U : Nat → Value} (h : OwnP E lo w g X n k U) {p : Addr} (hp : p.block < lo) (u : Value) : OwnP E lo (w.setCell p u) g X n k U := by
  have hg := h.hlo
  have hne : p.block ≠ g := by omega
  refine ⟨h.hlo, fun i hi => ⟨?_, by rw [World.frozen?_setCell]; exact (h.cells i hi).2⟩, fun i hi hk => ?_, h.dis⟩
  · obtain ⟨v, hv⟩ := (h.cells i hi).1
    exact ⟨v, (World.cell?_setCell_far _ _ _ _ hne).trans hv⟩
  · obtain ⟨h1, h2, h3⟩ := h.get i hi hk
    exact ⟨(World.cell?_setCell_far _ _ _ _ hne).trans h1, (World.cell?_setCell_far _ _ _ _ hne).trans h2, h3.setBelow (by omega) u⟩
theorem OwnP.rd {E : TypeId} {lo : Nat} {w : World} {g cap : Nat} {X : List Part2} {U : Nat → Value} (h : OwnP E lo w g X X.length X.length U) (hl : X.length ≤ 9223372036854775807) : RdP w (.slice (some ⟨g, 0, none⟩) X.length cap) X :=
  ⟨_, _, rfl, hl, fun k hk => by
    obtain ⟨h1, h2, h3⟩ := h.get k hk hk
    exact ⟨g, 0, U k, rfl, by rw [Nat.zero_add]; exact h1, by rw [Nat.zero_add]; exact h2, h3.rd⟩⟩
theorem OwnP.step {E : TypeId} {lo : Nat} {w : World} {g k : Nat} {X : List Part2} {U : Nat → Value} (h : OwnP E lo w g X X.length k U) (hk : k < X.length) (u : Value) (m : Nat) (hown : OwnI E m w u X[k].1) (hm : g < m) (hU : ∀ i, i < k → ∀ b, (U i).ownBlock = some b → b < m) :
    OwnP E lo ((w.setCell ⟨g, k * 2, none⟩ u).setCell ⟨g, k * 2 + 1, none⟩ (.int .i64 X[k].2)) g X X.length (k + 1) (fun i => if i = k then u else U i) ∧ w.grownBy ((w.setCell ⟨g, k * 2, none⟩ u).setCell ⟨g, k * 2 + 1, none⟩ (.int .i64 X[k].2)) (some g) := by
  have hin : ∀ j, j < [u, Value.int .i64 X[k].2].length → (w.cell? ⟨g, k * 2 + j, none⟩).isSome = true := fun j hj => by
    simp only [List.length_cons, List.length_nil] at hj
    obtain ⟨⟨v, hv⟩, _⟩ := h.cells (k * 2 + j) (by omega)
    rw [hv]; rfl
  have c0 : ((w.setCell ⟨g, k * 2, none⟩ u).setCell ⟨g, k * 2 + 1, none⟩ (.int .i64 X[k].2)).cell? ⟨g, k * 2, none⟩ = some u := World.cell?_setCells_in g [u, .int .i64 X[k].2] (k * 2) w hin 0 (by simp)
  have c1 : ((w.setCell ⟨g, k * 2, none⟩ u).setCell ⟨g, k * 2 + 1, none⟩ (.int .i64 X[k].2)).cell? ⟨g, k * 2 + 1, none⟩ = some (.int .i64 X[k].2) := World.cell?_setCells_in g [u, .int .i64 X[k].2] (k * 2) w hin 1 (by simp)
  have cf : ∀ p, ((w.setCell ⟨g, k * 2, none⟩ u).setCell ⟨g, k * 2 + 1, none⟩ (.int .i64 X[k].2)).frozen? p = w.frozen? p := fun p => frozen_setCells g p [u, .int .i64 X[k].2] (k * 2) w
  have co : ∀ o, o < k * 2 ∨ k * 2 + 2 ≤ o → ((w.setCell ⟨g, k * 2, none⟩ u).setCell ⟨g, k * 2 + 1, none⟩ (.int .i64 X[k].2)).cell? ⟨g, o, none⟩ = w.cell? ⟨g, o, none⟩ := fun o ho => World.cell?_setCells_out g [u, .int .i64 X[k].2] (k * 2) w ⟨g, o, none⟩ (fun _ _ => ho)
  have hgr : w.grownBy ((w.setCell ⟨g, k * 2, none⟩ u).setCell ⟨g, k * 2 + 1, none⟩ (.int .i64 X[k].2)) (some g) := grownBy_setCells w g [u, .int .i64 X[k].2] (k * 2)
  have hrow : ∀ {B : Nat} {v : Value} {xs : List Int}, OwnI E B w v xs → g < B → OwnI E B ((w.setCell ⟨g, k * 2, none⟩ u).setCell ⟨g, k * 2 + 1, none⟩ (.int .i64 X[k].2)) v xs := fun ho hB => (ho.setBelow hB _).setBelow hB _
  refine ⟨⟨h.hlo, fun i hi => ⟨?_, by rw [cf]; exact (h.cells i hi).2⟩, fun i hi hik => ?_, fun i j hij hj b hb => ?_⟩, hgr⟩
  · by_cases e0 : i = k * 2
    · subst e0; exact ⟨_, c0⟩
    · by_cases e1 : i = k * 2 + 1
      · subst e1; exact ⟨_, c1⟩
      · rw [co i (by omega)]; exact (h.cells i hi).1
  · by_cases e : i = k
    · subst e
      simp only [if_true]
      exact ⟨c0, c1, (hrow hown hm).base (by omega)⟩
    · simp only [if_neg e]
      obtain ⟨h1, h2, h3⟩ := h.get i hi (by omega)
      exact ⟨by rw [co _ (by omega)]; exact h1, by rw [co _ (by omega)]; exact h2, hrow h3 (Nat.lt_succ_self g)⟩
  · have e1 : i ≠ k := by omega
    simp only [if_neg e1] at hb
    by_cases e2 : j = k
    · subst e2
      simp only [if_true]
      intro e3
      have h1 := hU i (by omega) b hb
      have h2 := (World.ownsRow.lt hown b e3).1
      omega
    · simp only [if_neg e2]
      exact h.dis i j hij (by omega) b hb
end Go.Proofs.YtioemkdapoombaaGreatDoor
end
