/- Lemmas on ranging over a map from int64 to int64. No program. -/
import Derived.Test.YtggffkklfdpmkaaMemM
namespace Go.RowKit
open Go.Maps (Keyed)
/-- block r is an iterator over block b, a map that reads as f; 'todo': the keys still to come -/
def RangeM (P : Program) (K E : TypeId) (w : World) (b r n : Nat) (f : Int → Option Int) (todo : Int → Bool) (cnt : Nat) : Prop :=
  ∃ (D : DataW Unit) (left : Lit → Bool), w.ranges P K (plainElem P E) b r n D left cnt ∧ Maps.IsMap D ∧
    (∀ k : Int, Maps.has D (.int .i64 k) = (f k).isSome ∧ ∀ c, f k = some c → ∀ z, D.atKey (.int .i64 k) z = .lit (.int .i64 c)) ∧
    (∀ k : Int, todo k = left (.int .i64 k)) ∧ ∀ k, todo k = true → (f k).isSome = true
theorem sameKey_i64 (x z : Int) : (Lit.int .i64 z).sameKey (.int .i64 x) = (z == x) := by
  show decide (IntKind.i64 = IntKind.i64 ∧ z = x) = (z == x)
  by_cases h : z = x <;> simp [h]
section
variable {P : Program} {K E : TypeId} {w : World} {b r n : Nat} {f : Int → Option Int} {todo : Int → Bool} {cnt : Nat}
theorem RangeM.kept {w' : World} {row : Option Nat} (h : RangeM P K E w b r n f todo cnt) (hg : w.grownBy w' row) (h1 : row ≠ some b) (h2 : row ≠ some r) : RangeM P K E w' b r n f todo cnt := by
  obtain ⟨D, left, h0, hr⟩ := h
  exact ⟨D, left, h0.kept hg (fun e => h1 e.symm) (fun e => h2 e.symm), hr⟩
theorem RangeM.lt (h : RangeM P K E w b r n f todo cnt) : r < w.heap.size ∧ b < w.heap.size ∧ r ≠ b := by
  obtain ⟨D, left, h0, hr⟩ := h
  exact ⟨h0.lt, h0.owns.lt, h0.ne⟩
theorem RangeM.below {w' : World} (h : RangeM P K E w b r n f todo cnt) (hb : Below w.heap.size w w') : RangeM P K E w' b r n f todo cnt :=
  h.kept (row := none) ⟨hb.os, hb.tape, hb.output, hb.size, fun k hk _ => hb.block k hk⟩ (by simp) (by simp)
theorem RangeM.left_eq (h : RangeM P K E w b r n f todo cnt) : w.rangeLeft b r = cnt := by
  obtain ⟨D, left, h0, _⟩ := h
  exact h0.left_eq
theorem RangeM.own (h : RangeM P K E w b r n f todo cnt) (lo hi : Nat) (h1 : lo ≤ b) (h2 : b < hi) : OwnM P K E lo hi w b n f := by
  obtain ⟨D, left, h0, hI, hr, _⟩ := h
  exact ⟨h1, h2, D, h0.owns, hI, hr⟩
theorem map_range {ops : Array Oper} {rest : List Oper} {o : Oper} {a : Act} {Q : Exit → Act → World → Prop} (hgd : o.guard = none) (m : Operand) (t : TypeId) (ho : o.op = Op.range t m)
    (ht : P.underlying t = some (.map K E)) (hK : P.underlying K = some (.int .i64)) (lo hi b n : Nat) (f : Int → Option Int) (w : World) (hm : a.eval m = .map (some b)) (hown : OwnM P K E lo hi w b n f)
    (h : ∀ w' cnt, RangeM P K E w' b w.heap.size n f (fun k => (f k).isSome) cnt → Below w.heap.size w w' → w'.heap.size = w.heap.size + 1 → wpList P ops Q rest (a.put o.dst (.pointer (some ⟨w.heap.size, 0, none⟩))) w') :
    wpList P ops Q (o :: rest) a w := by
  obtain ⟨h1, h2, D, hD, hI, hr⟩ := hown
  refine wpList_range_own w hgd m t ho K E (Maps.int_keyed hK) ht _ b n D hm hD fun w' hrg hg hs => ?_
  exact h w' _ ⟨D, _, hrg, hI, hr, fun k => (hr k).1.symm, fun k hk => hk⟩ ⟨hg.os, hg.tape, hg.output, hg.size, fun k hk => hg.block k hk (by simp)⟩ hs
theorem map_next {ops : Array Oper} {rest : List Oper} {o : Oper} {a : Act} {Q : Exit → Act → World → Prop} (hgd : o.guard = none) (it : Operand) (ho : o.op = Op.next it false)
    (hK : P.underlying K = some (.int .i64)) (hE : P.underlying E = some (.int .i64)) (b r n : Nat) (f : Int → Option Int) (todo : Int → Bool) (cnt : Nat) (w : World)
    (hit : a.eval it = .pointer (some ⟨r, 0, none⟩)) (hrg : RangeM P K E w b r n f todo cnt)
    (hDone : (∀ k, todo k = false) → wpList P ops Q rest (a.put o.dst (.tuple #[.bool false])) w)
    (hMore : ∀ (x c : Int) (w' : World) (cnt' : Nat), (-9223372036854775808 ≤ x ∧ x ≤ 9223372036854775807) → todo x = true → f x = some c → RangeM P K E w' b r n f (fun z => todo z && !(z == x)) cnt' → cnt' < cnt → w.grownBy w' (some r) → w'.heap.size = w.heap.size →
      (Instr.entry (.pointer (some ⟨r, 0, none⟩))).run P w' = .ok (.tuple #[.int .i64 x, .int .i64 c]) w' → wpList P ops Q rest (a.put o.dst (.tuple #[.bool true, .int .i64 x, .int .i64 c])) w') :
    wpList P ops Q (o :: rest) a w := by
  obtain ⟨D, left, h0, hI, hr, ht, hs⟩ := hrg
  refine wpList_next_ranges_ii w hgd it ho K E .i64 .i64 (Maps.int_keyed hK) hK hE b r n D left cnt hit h0 (fun _ hl => hDone fun k => by rw [ht k]; exact hl _) fun x c w' cnt' hwx hwc hlx hat hrg' hlt hg hsz hen => ?_
  have hx : todo x = true := by rw [ht x]; exact hlx
  have hfx : f x = some c := by
    have h1 := hs x hx
    obtain ⟨c', hc'⟩ := Option.isSome_iff_exists.1 h1
    have h2 := (hr x).2 c' hc' .nil
    rw [hat .nil] at h2
    cases h2
    exact hc'
  refine hMore x c w' cnt' ?_ hx hfx ⟨D, _, hrg', hI, hr, fun k => by show (todo k && !(k == x)) = _; rw [sameKey_i64, ht k], fun k hk => hs k (by rw [Bool.and_eq_true] at hk; exact hk.1)⟩ hlt hg hsz hen
  simp [Lit.wf, IntKind.min, IntKind.max, IntKind.signed, IntKind.bits] at hwx
  omega
end
end Go.RowKit
