/- The law OrdersX: what it rests on, part 10 of 48. -/
import Derived.Test.YtgcmnpimkfmccaaQOrdersX06
import Derived.Test.YtgcmnpimkfmccaaQOrdersX07
import Derived.Test.YtgcmnpimkfmccaaQOrdersX09
namespace Go.Proofs.Ytgcmnpimkfmccaa
open Go.ChangeShapes Go.WideShapes Go.ChangeAt Go.RowKit
set_option linter.unusedVariables false
/-- a search's own blocks: its fields, the marks of what is used, the order so far, the best order -/
structure SrchM (E : TypeId) (lo bo io iu bu n : Nat) (D : Nat → Prop) (w0 : World) (vc vf vl : Value) (w : World) (xo x5 x6 vo : Value) (O : List Int) (f : Nat → Bool) (vb : Value) (B : List Int) : Prop where
  c0 : w.cell? ⟨bo, 0, none⟩ = some vc
  c1 : w.cell? ⟨bo, 1, none⟩ = some vf
  c2 : w.cell? ⟨bo, 2, none⟩ = some vl
  co : w.cell? ⟨bo, io, none⟩ = some xo
  cu : w.cell? ⟨bo, iu, none⟩ = some (.slice (some ⟨bu, 0, none⟩) n n)
  c5 : w.cell? ⟨bo, 5, none⟩ = some x5
  c6 : w.cell? ⟨bo, 6, none⟩ = some x6
  fo : w.frozen? ⟨bo, io, none⟩ = false
  f5 : w.frozen? ⟨bo, 5, none⟩ = false
  f6 : w.frozen? ⟨bo, 6, none⟩ = false
  us : BoolsAt w bu n f
  ow : OwnI E lo w vo O
  ob : OwnI E w0.heap.size w vb B
  ho : ∀ k, vo.ownBlock = some k → (D k ∨ w0.heap.size ≤ k) ∧ k ≠ bo ∧ k ≠ bu ∧ vb.ownBlock ≠ some k
  up : UpdS D w0 w
  dbo : D bo
  dbu : D bu
  ne : bo ≠ bu
  lbo : bo < w0.heap.size
  lbu : bu < w0.heap.size
  hlo : lo ≤ w0.heap.size
  dlt : ∀ k, D k → k < w0.heap.size
variable {E : TypeId} {lo bo io iu bu n : Nat} {D : Nat → Prop} {w0 : World} {vc vf vl : Value} {w w' : World} {xo x5 x6 vo : Value} {O : List Int} {f : Nat → Bool} {vb : Value} {B : List Int}
theorem SrchM.nb (h : SrchM E lo bo io iu bu n D w0 vc vf vl w xo x5 x6 vo O f vb B) : ∀ k, vb.ownBlock = some k → k ≠ bo ∧ k ≠ bu := fun k hk => by
  have h1 := (World.ownsRow.lt h.ob k hk).1
  have := h.lbo
  have := h.lbu
  omega
theorem SrchM.below (h : SrchM E lo bo io iu bu n D w0 vc vf vl w xo x5 x6 vo O f vb B) (hb : Below w.heap.size w w') : SrchM E lo bo io iu bu n D w0 vc vf vl w' xo x5 x6 vo O f vb B :=
  ⟨cellB hb h.c0, cellB hb h.c1, cellB hb h.c2, cellB hb h.co, cellB hb h.cu, cellB hb h.c5, cellB hb h.c6, frozB hb h.co h.fo, frozB hb h.c5 h.f5, frozB hb h.c6 h.f6, h.us.below hb, h.ow.below hb, h.ob.below hb, h.ho, h.up.trans (UpdS.of_below hb) (fun _ _ d => d), h.dbo, h.dbu, h.ne, h.lbo, h.lbu, h.hlo, h.dlt⟩
theorem setCellO (a : World) {g j g' k : Nat} {u x : Value} (hc : a.cell? ⟨g', k, none⟩ = some x) (hne : g' ≠ g ∨ k ≠ j) : (a.setCell ⟨g, j, none⟩ u).cell? ⟨g', k, none⟩ = some x :=
  (World.cell?_setCell_other a _ _ _ (fun e => by cases e; rcases hne with h | h <;> exact h rfl)).trans hc
theorem setCellF {a : World} {g j g' k : Nat} {u : Value} (hf : a.frozen? ⟨g', k, none⟩ = false) : (a.setCell ⟨g, j, none⟩ u).frozen? ⟨g', k, none⟩ = false := by rw [World.frozen?_setCell]; exact hf
theorem BoolsAt.other {a : World} {g n j g' : Nat} {f : Nat → Bool} {u : Value} (h : BoolsAt a g n f) (hne : g ≠ g') : BoolsAt (a.setCell ⟨g', j, none⟩ u) g n f := fun k hk => ⟨setCellO a (h k hk).1 (Or.inl hne), setCellF (h k hk).2⟩
theorem SrchM.setUsed (h : SrchM E lo bo io iu bu n D w0 vc vf vl w xo x5 x6 vo O f vb B) (k : Nat) (hk : k < n) (u : Bool) : SrchM E lo bo io iu bu n D w0 vc vf vl (w.setCell ⟨bu, k, none⟩ (.bool u)) xo x5 x6 vo O (fun j => if j = k then u else f j) vb B :=
  ⟨setCellO w h.c0 (Or.inl h.ne), setCellO w h.c1 (Or.inl h.ne), setCellO w h.c2 (Or.inl h.ne), setCellO w h.co (Or.inl h.ne), setCellO w h.cu (Or.inl h.ne), setCellO w h.c5 (Or.inl h.ne), setCellO w h.c6 (Or.inl h.ne), setCellF h.fo, setCellF h.f5, setCellF h.f6,
    h.us.store k hk u, h.ow.setFar (fun q hq => (h.ho q hq).2.2.1) _, h.ob.setFar (fun q hq => (h.nb q hq).2) _, h.ho, h.up.trans (UpdS.of_set (D := D) _ h.dbu) (fun _ _ d => d), h.dbo, h.dbu, h.ne, h.lbo, h.lbu, h.hlo, h.dlt⟩
theorem SrchM.put5 (h : SrchM E lo bo io iu bu n D w0 vc vf vl w xo x5 x6 vo O f vb B) (hio : io < 5) (hiu : iu < 5) (u : Value) : SrchM E lo bo io iu bu n D w0 vc vf vl (w.setCell ⟨bo, 5, none⟩ u) xo u x6 vo O f vb B :=
  ⟨setCellO w h.c0 (Or.inr (by decide)), setCellO w h.c1 (Or.inr (by decide)), setCellO w h.c2 (Or.inr (by decide)), setCellO w h.co (Or.inr (by omega)), setCellO w h.cu (Or.inr (by omega)), World.cell?_setCell_same w _ _ h.c5, setCellO w h.c6 (Or.inr (by decide)), setCellF h.fo, setCellF h.f5, setCellF h.f6,
    h.us.other (fun e => h.ne e.symm), h.ow.setFar (fun q hq => (h.ho q hq).2.1) _, h.ob.setFar (fun q hq => (h.nb q hq).1) _, h.ho, h.up.trans (UpdS.of_set (D := D) _ h.dbo) (fun _ _ d => d), h.dbo, h.dbu, h.ne, h.lbo, h.lbu, h.hlo, h.dlt⟩
theorem SrchM.put6 (h : SrchM E lo bo io iu bu n D w0 vc vf vl w xo x5 x6 vo O f vb B) (hio : io < 5) (hiu : iu < 5) (u : Value) : SrchM E lo bo io iu bu n D w0 vc vf vl (w.setCell ⟨bo, 6, none⟩ u) xo x5 u vo O f vb B :=
  ⟨setCellO w h.c0 (Or.inr (by decide)), setCellO w h.c1 (Or.inr (by decide)), setCellO w h.c2 (Or.inr (by decide)), setCellO w h.co (Or.inr (by omega)), setCellO w h.cu (Or.inr (by omega)), setCellO w h.c5 (Or.inr (by decide)), World.cell?_setCell_same w _ _ h.c6, setCellF h.fo, setCellF h.f5, setCellF h.f6,
    h.us.other (fun e => h.ne e.symm), h.ow.setFar (fun q hq => (h.ho q hq).2.1) _, h.ob.setFar (fun q hq => (h.nb q hq).1) _, h.ho, h.up.trans (UpdS.of_set (D := D) _ h.dbo) (fun _ _ d => d), h.dbo, h.dbu, h.ne, h.lbo, h.lbu, h.hlo, h.dlt⟩
theorem SrchM.putO (h : SrchM E lo bo io iu bu n D w0 vc vf vl w xo x5 x6 vo O f vb B) (hio : 3 ≤ io ∧ io < 5) (hne : io ≠ iu) (u : Value) : SrchM E lo bo io iu bu n D w0 vc vf vl (w.setCell ⟨bo, io, none⟩ u) u x5 x6 vo O f vb B :=
  ⟨setCellO w h.c0 (Or.inr (by omega)), setCellO w h.c1 (Or.inr (by omega)), setCellO w h.c2 (Or.inr (by omega)), World.cell?_setCell_same w _ _ h.co, setCellO w h.cu (Or.inr (fun e => hne e.symm)), setCellO w h.c5 (Or.inr (by omega)), setCellO w h.c6 (Or.inr (by omega)), setCellF h.fo, setCellF h.f5, setCellF h.f6,
    h.us.other (fun e => h.ne e.symm), h.ow.setFar (fun q hq => (h.ho q hq).2.1) _, h.ob.setFar (fun q hq => (h.nb q hq).1) _, h.ho, h.up.trans (UpdS.of_set (D := D) _ h.dbo) (fun _ _ d => d), h.dbo, h.dbu, h.ne, h.lbo, h.lbu, h.hlo, h.dlt⟩
theorem SrchM.grow {v' : Value} {O' : List Int} (h : SrchM E lo bo io iu bu n D w0 vc vf vl w xo x5 x6 vo O f vb B) (ho : OwnI E lo w' v' O') (hg : w.grownBy w' vo.ownBlock) (hat : v'.ownBlock = vo.ownBlock ∨ ∀ k, v'.ownBlock = some k → w.heap.size ≤ k) : SrchM E lo bo io iu bu n D w0 vc vf vl w' xo x5 x6 v' O' f vb B := by
  have hbo : vo.ownBlock ≠ some bo := fun e => (h.ho bo e).2.1 rfl
  have hbu : vo.ownBlock ≠ some bu := fun e => (h.ho bu e).2.2.1 rfl
  have hs := h.up.size
  have := h.lbo
  have := h.lbu
  refine ⟨grownB hg h.c0 hbo, grownB hg h.c1 hbo, grownB hg h.c2 hbo, grownB hg h.co hbo, grownB hg h.cu hbo, grownB hg h.c5 hbo, grownB hg h.c6 hbo, grownF hg h.co h.fo hbo, grownF hg h.c5 h.f5 hbo, grownF hg h.c6 h.f6 hbo,
    fun k hk => ⟨grownB hg (h.us k hk).1 hbu, grownF hg (h.us k hk).1 (h.us k hk).2 hbu⟩, ho, h.ob.far hg (fun k hk e => (h.ho k e).2.2.2 hk), fun k hk => ?_, h.up.trans (UpdS.of_grown hg (D := fun k => vo.ownBlock = some k) (fun k hk => hk)) (fun i hi d => ?_), h.dbo, h.dbu, h.ne, h.lbo, h.lbu, h.hlo, h.dlt⟩
  · rcases hat with e | e
    · exact h.ho k (e ▸ hk)
    · have hk2 := e k hk
      exact ⟨Or.inr (by omega), by omega, by omega, fun e2 => by have := (World.ownsRow.lt h.ob _ e2).2; omega⟩
  · rcases (h.ho i d).1 with e | e
    · exact e
    · omega
/-- a new best order -/
theorem SrchM.newBest {u : Value} {B' : List Int} (h : SrchM E lo bo io iu bu n D w0 vc vf vl w xo x5 x6 vo O f vb B) (ho : OwnI E w.heap.size w' u B') (hb : Below w.heap.size w w') : SrchM E lo bo io iu bu n D w0 vc vf vl w' xo x5 x6 vo O f u B' := by
  have h2 := h.below hb
  refine ⟨h2.c0, h2.c1, h2.c2, h2.co, h2.cu, h2.c5, h2.c6, h2.fo, h2.f5, h2.f6, h2.us, h2.ow, ho.base h.up.size, fun k hk => ⟨(h2.ho k hk).1, (h2.ho k hk).2.1, (h2.ho k hk).2.2.1, fun e => ?_⟩, h2.up, h2.dbo, h2.dbu, h2.ne, h2.lbo, h2.lbu, h2.hlo, h2.dlt⟩
  have h3 := (World.ownsRow.lt h.ow k hk).2
  have h4 := (World.ownsRow.lt ho k e).1
  omega
theorem OwnI.short {E : TypeId} {B : Nat} {w : World} {a : Addr} {n cap : Nat} {xs : List Int} (h : OwnI E B w (.slice (some a) n cap) xs) (m : Nat) (hm : m ≤ xs.length) : OwnI E B w (.slice (some a) m cap) (xs.take m) := by
  obtain ⟨h1, h2⟩ := h
  rcases h2 with ⟨hv, -⟩ | ⟨g, cap', cur, hv, hg, hh, hn, hc, hs, ht⟩
  · cases hv
  · cases hv
    have e : (xs.take m).length = m := by rw [List.length_take]; omega
    refine ⟨by simp [ints], Or.inr ⟨g, cap, cur, ?_, hg, hh, by rw [e]; omega, hc, hs, ?_⟩⟩
    · rw [e]
    · rw [e]
      have h5 : (cur.toList.take (xs.length * 1)).take (m * 1) = (ints xs).take (m * 1) := by rw [ht]
      rw [List.take_take, Nat.min_eq_left (by omega)] at h5
      rw [h5]
      simp [ints, List.map_take]
theorem SrchM.short {a : Addr} {m cap : Nat} (h : SrchM E lo bo io iu bu n D w0 vc vf vl w xo x5 x6 (.slice (some a) m cap) O f vb B) (k : Nat) (hk : k ≤ O.length) : SrchM E lo bo io iu bu n D w0 vc vf vl w xo x5 x6 (.slice (some a) k cap) (O.take k) f vb B :=
  ⟨h.c0, h.c1, h.c2, h.co, h.cu, h.c5, h.c6, h.fo, h.f5, h.f6, h.us, OwnI.short h.ow k hk, h.ob, h.ho, h.up, h.dbo, h.dbu, h.ne, h.lbo, h.lbu, h.hlo, h.dlt⟩
theorem SrchM.fun {g : Nat → Bool} (h : SrchM E lo bo io iu bu n D w0 vc vf vl w xo x5 x6 vo O f vb B) (hg : ∀ k, k < n → f k = g k) : SrchM E lo bo io iu bu n D w0 vc vf vl w xo x5 x6 vo O g vb B :=
  ⟨h.c0, h.c1, h.c2, h.co, h.cu, h.c5, h.c6, h.fo, h.f5, h.f6, fun k hk => hg k hk ▸ h.us k hk, h.ow, h.ob, h.ho, h.up, h.dbo, h.dbu, h.ne, h.lbo, h.lbu, h.hlo, h.dlt⟩
def lstO (z : Int) : Option (List Int × Int) → Int
  | none => z
  | some p => p.2
def bstO : Option (List Int × Int) → List Int
  | none => []
  | some p => p.1
def memO (O : List Int) (k : Nat) : Bool := decide ((k : Int) ∈ O)
/-- a search amid its work: the order so far, and what is kept -/
structure SrchAt (E : TypeId) (lo bo io iu bu n : Nat) (D : Nat → Prop) (z : Int) (w0 : World) (vc vf vl : Value) (w : World) (vo : Value) (O : List Int) (vb : Value) (b : Option (List Int × Int)) : Prop where
  m : SrchM E lo bo io iu bu n D w0 vc vf vl w vo vb (.int .i64 (lstO z b)) vo O (memO O) vb (bstO b)
  bn : b = none → vb = .slice none 0 0
  bs : ∀ p, b = some p → ∃ ad n cap, vb = .slice (some ad) n cap
theorem SrchAt.below {z : Int} {b : Option (List Int × Int)} (h : SrchAt E lo bo io iu bu n D z w0 vc vf vl w vo O vb b) (hb : Below w.heap.size w w') : SrchAt E lo bo io iu bu n D z w0 vc vf vl w' vo O vb b := ⟨h.m.below hb, h.bn, h.bs⟩
/-- the places' numbers, as they lie in blocks that a search leaves alone -/
structure RdFar (D : Nat → Prop) (n : Nat) (w : World) (vc vf vl : Value) (F : Far) : Prop where
  cc : ∃ b o cap, vc = .slice (some ⟨b, o, none⟩) n cap ∧ ∀ i, i < n → ∃ bi oi ci, ¬ D b ∧ ¬ D bi ∧ w.cell? ⟨b, o + i, none⟩ = some (.slice (some ⟨bi, oi, none⟩) n ci) ∧ ∀ j, j < n → w.cell? ⟨bi, oi + j, none⟩ = some (.int .i64 ((F.costs.getD i []).getD j 0))
  ff : ∃ b o cap, vf = .slice (some ⟨b, o, none⟩) n cap ∧ ¬ D b ∧ ∀ j, j < n → w.cell? ⟨b, o + j, none⟩ = some (.int .i64 (F.first.getD j 0))
  ll : ∃ b o cap, vl = .slice (some ⟨b, o, none⟩) n cap ∧ ¬ D b ∧ ∀ j, j < n → w.cell? ⟨b, o + j, none⟩ = some (.int .i64 (F.last.getD j 0))
theorem RdFar.upd {F : Far} (h : RdFar D n w vc vf vl F) (u : UpdS D w w') : RdFar D n w' vc vf vl F := by
  obtain ⟨b0, o0, c0, e0, h0⟩ := h.cc
  obtain ⟨b1, o1, c1, e1, d1, h1⟩ := h.ff
  obtain ⟨b2, o2, c2, e2, d2, h2⟩ := h.ll
  refine ⟨⟨b0, o0, c0, e0, fun i hi => ?_⟩, ⟨b1, o1, c1, e1, d1, fun j hj => u.cell (h1 j hj) d1⟩, ⟨b2, o2, c2, e2, d2, fun j hj => u.cell (h2 j hj) d2⟩⟩
  obtain ⟨bi, oi, ci, d0, di, hc, hr⟩ := h0 i hi
  exact ⟨bi, oi, ci, d0, di, u.cell hc d0, fun j hj => u.cell (hr j hj) di⟩
theorem RdFar.below {F : Far} (h : RdFar D n w vc vf vl F) (hb : Below w.heap.size w w') : RdFar D n w' vc vf vl F := h.upd (UpdS.of_below hb)
/-- bounds of the numbers -/
structure BdF (F : Far) (n : Nat) : Prop where
  hf : F.first.length = n
  hn : 1 ≤ n ∧ n ≤ 8
  hc : ∀ O k, 0 ≤ costO F O k ∧ costO F O k ≤ 1000000
  hl : ∀ k, 0 ≤ F.last.getD k 0 ∧ F.last.getD k 0 ≤ 1000000
def NnO (b : Option (List Int × Int)) : Prop := ∀ p, b = some p → 0 ≤ p.2 ∧ p.2 ≤ 100000000
theorem NnO.none : NnO none := fun _ h => by cases h
theorem betO_nn {b : Option (List Int × Int)} (h : NnO b) (O : List Int) {a : Int} (ha : 0 ≤ a ∧ a ≤ 100000000) : NnO (betO b O a) := by
  cases b with
  | none => intro p hp; cases hp; exact ha
  | some q =>
    unfold betO
    by_cases h2 : a < q.2
    · simp only [h2, if_true]; intro p hp; cases hp; exact ha
    · simp only [h2, if_false]; exact h
theorem walkO_nn {F : Far} {n : Nat} (hF : BdF F n) : ∀ d O s b, O.length + d = n → (0 ≤ s ∧ s ≤ 1000000 * (O.length : Int)) → NnO b → NnO (walkO F d O s b)
  | 0, O, s, b, hl, hs, hb => by
    cases h : cutO b s
    · rw [walkO_zero F O s _ h]
      have h1 := hF.hl (lastI O)
      have h2 := hF.hn
      exact betO_nn hb O ⟨by omega, by omega⟩
    · rw [walkO_cut F _ O s _ h]; exact hb
  | d + 1, O, s, b, hl, hs, hb => by
    cases h : cutO b s
    · rw [walkO_succ F d O s _ h]
      have key : ∀ k, NnO (foldO F d O s b k) := by
        intro k
        induction k with
        | zero => exact hb
        | succ k ih =>
          rw [foldO_succ]
          unfold roundO
          by_cases h3 : (k : Int) ∈ O
          · rw [if_pos h3]; exact ih
          · rw [if_neg h3]
            have h1 := hF.hc O k
            exact walkO_nn hF d _ _ _ (by rw [List.length_append, List.length_singleton]; omega) (by rw [List.length_append, List.length_singleton]; omega) ih
      exact key _
    · rw [walkO_cut F _ O s _ h]; exact hb
theorem foldO_nn {F : Far} {n : Nat} (hF : BdF F n) {d : Nat} {O : List Int} {s : Int} {b : Option (List Int × Int)} (hl : O.length + (d + 1) = n) (hs : 0 ≤ s ∧ s ≤ 1000000 * (O.length : Int)) (hb : NnO b) : ∀ k, NnO (foldO F d O s b k) := by
  intro k
  induction k with
  | zero => exact hb
  | succ k ih =>
    rw [foldO_succ]
    unfold roundO
    by_cases h3 : (k : Int) ∈ O
    · rw [if_pos h3]; exact ih
    · rw [if_neg h3]
      have h1 := hF.hc O k
      exact walkO_nn hF d _ _ _ (by rw [List.length_append, List.length_singleton]; omega) (by rw [List.length_append, List.length_singleton]; omega) ih
theorem lastI_at {n : Nat} {O : List Int} (hp : PathO n O) (h : O ≠ []) : O.getD (O.length - 1) 0 = (lastI O : Int) ∧ lastI O < n := by
  have h1 : 0 < O.length := List.length_pos_iff.2 h
  have e : O.getLast? = some (O.getLast h) := List.getLast?_eq_some_getLast h
  have hm := hp.rg _ (List.getLast_mem h)
  have e2 : O.getD (O.length - 1) 0 = O.getLast h := by
    rw [List.getLast_eq_getElem]
    rw [List.getD, List.getElem?_eq_getElem (by omega)]; rfl
  rw [e2]
  unfold lastI
  rw [e]
  simp only [Option.getD_some]
  omega
theorem memO_snoc (O : List Int) (k j : Nat) : memO (O ++ [(k : Int)]) j = (if j = k then true else memO O j) := by
  unfold memO
  by_cases h : j = k
  · subst h; simp
  · rw [if_neg h]
    have : (j : Int) ≠ (k : Int) := by omega
    simp [this]
theorem memO_back {O : List Int} {k : Nat} (h : memO O k = false) (j : Nat) : (if j = k then false else memO (O ++ [(k : Int)]) j) = memO O j := by
  by_cases e : j = k
  · subst e; rw [if_pos rfl, h]
  · rw [if_neg e, memO_snoc, if_neg e]
end Go.Proofs.Ytgcmnpimkfmccaa
