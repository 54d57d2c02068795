/- Lemmas on maps from int64 to int64 of the call's own, as functions. No program. -/
import Derived.Test.YtecdmnncfloagaaMem
import Derived.Maps.Own
import Derived.Maps.OwnOps
import Derived.Maps.OwnSet
import Derived.Maps.RangeWalk
import Derived.WalkArith
namespace Go.RowKit
open Go.Maps (Keyed)
/-- block b is a map of int64s, of at most n entries, that reads as f -/
def OwnM (P : Program) (K E : TypeId) (lo hi : Nat) (w : World) (b n : Nat) (f : Int → Option Int) : Prop :=
  lo ≤ b ∧ b < hi ∧ ∃ D : DataW Unit, w.ownsMap P K (plainElem P E) b n D ∧ Maps.IsMap D ∧
    ∀ k : Int, Maps.has D (.int .i64 k) = (f k).isSome ∧ ∀ c, f k = some c → ∀ z, D.atKey (.int .i64 k) z = .lit (.int .i64 c)
section
variable {P : Program} {K E : TypeId} {lo hi : Nat} {w : World} {b n : Nat} {f : Int → Option Int}
theorem OwnM.lt (h : OwnM P K E lo hi w b n f) : b < w.heap.size := by
  obtain ⟨_, _, D, hD, _⟩ := h
  exact hD.lt
theorem OwnM.below {w' : World} (h : OwnM P K E lo hi w b n f) (hb : Below w.heap.size w w') : OwnM P K E lo hi w' b n f := by
  obtain ⟨h1, h2, D, hD, hr⟩ := h
  obtain ⟨es, clock, hh, r⟩ := hD
  refine ⟨h1, h2, D, ⟨es, clock, ?_, r⟩, hr⟩
  rw [hb.block b (Array.getElem?_eq_some_iff.1 hh).1]; exact hh
theorem OwnM.upd {lo' hi' : Nat} {w' : World} (h : OwnM P K E lo hi w b n f) (hb : Upd lo' hi' w w') (hd : hi ≤ lo' ∨ hi' ≤ lo) : OwnM P K E lo hi w' b n f := by
  obtain ⟨h1, h2, D, hD, hr⟩ := h
  obtain ⟨es, clock, hh, r⟩ := hD
  refine ⟨h1, h2, D, ⟨es, clock, ?_, r⟩, hr⟩
  rw [hb.block b (by omega) (Array.getElem?_eq_some_iff.1 hh).1]; exact hh
theorem OwnM.al (h : OwnM P K E lo hi w b n f) (o : Obj) : OwnM P K E lo hi (w.alloc o) b n f := by
  obtain ⟨h1, h2, D, hD, hr⟩ := h
  exact ⟨h1, h2, D, hD.alloc o, hr⟩
theorem OwnM.drN (h : OwnM P K E lo hi w b n f) (k : Nat) : OwnM P K E lo hi (w.drewN k) b n f := h
theorem OwnM.wide {lo' hi' : Nat} (h : OwnM P K E lo hi w b n f) (h1 : lo' ≤ lo) (h2 : hi ≤ hi') : OwnM P K E lo' hi' w b n f := ⟨Nat.le_trans h1 h.1, Nat.lt_of_lt_of_le h.2.1 h2, h.2.2⟩
theorem OwnM.tight (h : OwnM P K E lo hi w b n f) : OwnM P K E lo w.heap.size w b n f := ⟨h.1, h.lt, h.2.2⟩
theorem OwnM.more {n' : Nat} (h : OwnM P K E lo hi w b n f) (hn : n ≤ n') : OwnM P K E lo hi w b n' f := by
  obtain ⟨h1, h2, D, hD, hr⟩ := h
  exact ⟨h1, h2, D, hD.mono hn, hr⟩
theorem OwnM.made {g : Nat} (hg : g = w.heap.size) (hB : lo ≤ w.heap.size) : OwnM P K E lo (w.heap.size + 1) (w.alloc (.map #[] 0)) g 0 (fun _ => none) := by
  subst hg
  exact ⟨hB, Nat.lt_succ_self _, .map [], World.ownsMap_made w P K _, Maps.isMap_empty, fun k => ⟨rfl, fun c hc => by cases hc⟩⟩
/-- f with one entry more -/
def fput (f : Int → Option Int) (k c : Int) : Int → Option Int := fun x => if x = k then some c else f x
theorem map_put {ops : Array Oper} {rest : List Oper} {o : Oper} {a : Act} {Q : Exit → Act → World → Prop} (hgd : o.guard = none) (m x v : Operand) (t : TypeId) (ho : o.op = Op.mapUpdate t m x v)
    (ht : P.underlying t = some (.map K E)) (hK : P.underlying K = some (.int .i64)) (hE : P.underlying E = some (.int .i64))
    (lo hi b n : Nat) (f : Int → Option Int) (k c : Int) (w : World) (hm : a.eval m = .map (some b)) (hx : a.eval x = .int .i64 k) (hv : a.eval v = .int .i64 c)
    (hown : OwnM P K E lo hi w b n f) (hn : n < 1000000000) (hk : -9223372036854775808 ≤ k ∧ k ≤ 9223372036854775807) (hc : -9223372036854775808 ≤ c ∧ c ≤ 9223372036854775807)
    (h : ∀ w', OwnM P K E lo hi w' b (n + 1) (fput f k c) → Upd lo hi w w' → wpList P ops Q rest (a.put o.dst undef) w') :
    wpList P ops Q (o :: rest) a w := by
  have hlt := hown.lt
  obtain ⟨h1, h2, D, hD, hI, hr⟩ := hown
  have hkey : keyOf P K (.int .i64 k) = some (.int .i64 k) := Maps.keyOf_int_mk hK (WalkArith.wf_i64 hk)
  have hkl : WideAt.IsKeyLit (.int .i64 k) := (Maps.int_keyed hK).key hkey
  refine wpList_mapUpdate_own w hgd m x v t ho K E (Maps.int_keyed hK) ht _ b n D hm hD (by unfold maxLen; omega) _ _ _ hx hv hkey _ [] (plainElem_int hE (WalkArith.wf_i64 hc)) fun w' hown' hg => ?_
  refine h w' ⟨h1, h2, _, hown', hI.put _ _, fun y => ?_⟩ ⟨hg.os, hg.tape, hg.output, hg.size, fun i hi' hl => hg.block i hl (fun e => by cases e; omega)⟩
  unfold fput
  by_cases hy : y = k
  · subst hy
    rw [if_pos rfl]
    exact ⟨Maps.has_put_same hI hkl _, fun c' hc' z => by cases hc'; exact Maps.atKey_put_same hI hkl _ _⟩
  · rw [if_neg hy]
    have hne : (Lit.int .i64 y) ≠ (Lit.int .i64 k) := fun e => hy (by cases e; rfl)
    exact ⟨by rw [Maps.has_put_other hne]; exact (hr y).1, fun c' hc' z => by rw [Maps.atKey_put_other hne]; exact (hr y).2 c' hc' z⟩
theorem OwnM.run_put {t : TypeId} (hown : OwnM P K E lo hi w b n f) (ht : P.underlying t = some (.map K E)) (hK : P.underlying K = some (.int .i64)) (hE : P.underlying E = some (.int .i64))
    (k c : Int) (hn : n < 1000000000) (hk : -9223372036854775808 ≤ k ∧ k ≤ 9223372036854775807) (hc : -9223372036854775808 ≤ c ∧ c ≤ 9223372036854775807) :
    ∃ w', (Instr.mapUpdate t (.map (some b)) (.int .i64 k) (.int .i64 c)).run P w = .ok () w' ∧ OwnM P K E lo hi w' b (n + 1) (fput f k c) ∧ Upd lo hi w w' ∧ w.grownBy w' (some b) := by
  have hlt := hown.lt
  obtain ⟨h1, h2, D, hD, hI, hr⟩ := hown
  have hkey : keyOf P K (.int .i64 k) = some (.int .i64 k) := Maps.keyOf_int_mk hK (WalkArith.wf_i64 hk)
  have hkl : WideAt.IsKeyLit (.int .i64 k) := (Maps.int_keyed hK).key hkey
  obtain ⟨w', hrun, hown', hg⟩ := hD.update (Maps.int_keyed hK) ht (by unfold maxLen; omega) hkey (plainElem_int hE (WalkArith.wf_i64 hc))
  refine ⟨w', hrun, ⟨h1, h2, _, hown', hI.put _ _, fun y => ?_⟩, ⟨hg.os, hg.tape, hg.output, hg.size, fun i hi' hl => hg.block i hl (fun e => by cases e; omega)⟩, hg⟩
  unfold fput
  by_cases hy : y = k
  · subst hy
    rw [if_pos rfl]
    exact ⟨Maps.has_put_same hI hkl _, fun c' hc' z => by cases hc'; exact Maps.atKey_put_same hI hkl _ _⟩
  · rw [if_neg hy]
    have hne : (Lit.int .i64 y) ≠ (Lit.int .i64 k) := fun e => hy (by cases e; rfl)
    exact ⟨by rw [Maps.has_put_other hne]; exact (hr y).1, fun c' hc' z => by rw [Maps.atKey_put_other hne]; exact (hr y).2 c' hc' z⟩
theorem at_of (D : DataW Unit) (k : Int) (o : Option Int) (h1 : Maps.has D (.int .i64 k) = o.isSome) (h2 : ∀ c, o = some c → ∀ z, D.atKey (.int .i64 k) z = .lit (.int .i64 c)) {c : Int} (hc : D.atKey (.int .i64 k) (.lit (.int .i64 0)) = .lit (.int .i64 c)) : c = o.getD 0 := by
  cases o with
  | none =>
    rw [Maps.atKey_of_not_has h1] at hc
    cases hc; rfl
  | some c' =>
    rw [h2 c' rfl] at hc
    cases hc; rfl
theorem map_get {ops : Array Oper} {rest : List Oper} {o : Oper} {a : Act} {Q : Exit → Act → World → Prop} (hgd : o.guard = none) (m x : Operand) (t : TypeId) (ho : o.op = Op.lookup t m x false)
    (ht : P.underlying t = some (.map K E)) (hK : P.underlying K = some (.int .i64)) (hE : P.underlying E = some (.int .i64)) (hz : ∀ w, (zeroValue E).run P w = .ok (.int .i64 0) w)
    (lo hi b n : Nat) (f : Int → Option Int) (k : Int) (w : World) (hm : a.eval m = .map (some b)) (hx : a.eval x = .int .i64 k)
    (hown : OwnM P K E lo hi w b n f) (hk : -9223372036854775808 ≤ k ∧ k ≤ 9223372036854775807)
    (h : wpList P ops Q rest (a.put o.dst (.int .i64 ((f k).getD 0))) w) :
    wpList P ops Q (o :: rest) a w := by
  obtain ⟨h1, h2, D, hD, hI, hr⟩ := hown
  have hkey : keyOf P K (.int .i64 k) = some (.int .i64 k) := Maps.keyOf_int_mk hK (WalkArith.wf_i64 hk)
  refine wpList_lookup_own_int w hgd m x t ho K E .i64 (Maps.int_keyed hK) ht hE (hz w) b n D hm hD _ _ hx hkey fun c hc _ => ?_
  rw [at_of D k (f k) (hr k).1 (hr k).2 hc]
  exact h
theorem OwnM.run_get {t : TypeId} (hown : OwnM P K E lo hi w b n f) (ht : P.underlying t = some (.map K E)) (hK : P.underlying K = some (.int .i64)) (hE : P.underlying E = some (.int .i64)) (hz : ∀ w, (zeroValue E).run P w = .ok (.int .i64 0) w)
    (k : Int) (hk : -9223372036854775808 ≤ k ∧ k ≤ 9223372036854775807) : (Instr.lookup t (.map (some b)) (.int .i64 k) false).run P w = .ok (.int .i64 ((f k).getD 0)) w := by
  obtain ⟨h1, h2, D, hD, hI, hr⟩ := hown
  have hkey : keyOf P K (.int .i64 k) = some (.int .i64 k) := Maps.keyOf_int_mk hK (WalkArith.wf_i64 hk)
  obtain ⟨c, hrun, hat, _⟩ := hD.lookup_int (Maps.int_keyed hK) ht hE (hz w) hkey
  rw [at_of D k (f k) (hr k).1 (hr k).2 hat] at hrun
  exact hrun
theorem map_getok {ops : Array Oper} {rest : List Oper} {o : Oper} {a : Act} {Q : Exit → Act → World → Prop} (hgd : o.guard = none) (m x : Operand) (t : TypeId) (ho : o.op = Op.lookup t m x true)
    (ht : P.underlying t = some (.map K E)) (hK : P.underlying K = some (.int .i64)) (hE : P.underlying E = some (.int .i64)) (hz : ∀ w, (zeroValue E).run P w = .ok (.int .i64 0) w)
    (lo hi b n : Nat) (f : Int → Option Int) (k : Int) (w : World) (hm : a.eval m = .map (some b)) (hx : a.eval x = .int .i64 k)
    (hown : OwnM P K E lo hi w b n f) (hk : -9223372036854775808 ≤ k ∧ k ≤ 9223372036854775807)
    (h : wpList P ops Q rest (a.put o.dst (.tuple #[.int .i64 ((f k).getD 0), .bool (f k).isSome])) w) :
    wpList P ops Q (o :: rest) a w := by
  obtain ⟨h1, h2, D, hD, hI, hr⟩ := hown
  have hkey : keyOf P K (.int .i64 k) = some (.int .i64 k) := Maps.keyOf_int_mk hK (WalkArith.wf_i64 hk)
  refine wpList_lookup_own_ok_int w hgd m x t ho K E .i64 (Maps.int_keyed hK) ht hE (hz w) b n D hm hD _ _ hx hkey fun c hc _ => ?_
  rw [at_of D k (f k) (hr k).1 (hr k).2 hc, (hr k).1]
  exact h
end
end Go.RowKit
