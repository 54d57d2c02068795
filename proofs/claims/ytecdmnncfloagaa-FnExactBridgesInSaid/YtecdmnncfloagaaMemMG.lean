/- Lemmas on maps from int64 to slices of int64 of the call's own, as functions. No program. -/
import Derived.Test.YtecdmnncfloagaaMemM
import Derived.Test.YtecdmnncfloagaaMemG
namespace Go.RowKit
open Go.Maps (Keyed)
theorem grownBy_of_below {a b : World} (r : Option Nat) (h : Below a.heap.size a b) : a.grownBy b r := ⟨h.os, h.tape, h.output, h.size, fun k hk _ => h.block k hk⟩
/-- what was made since is written -/
theorem grownBy_far {a b c : World} {r r' : Option Nat} (h : a.grownBy b r) (k : b.grownBy c r') (hr : ∀ g, r' = some g → a.heap.size ≤ g) : a.grownBy c r :=
  ⟨k.os.trans h.os, k.tape.trans h.tape, k.output.trans h.output, Nat.le_trans h.size k.size, fun i hi hne => (k.block i (Nat.lt_of_lt_of_le hi h.size) (fun e => by have := hr i e.symm; omega)).trans (h.block i hi hne)⟩
/-- a slice's header, as a datum -/
def hdR : Value → Option (DataW Unit × List MemPlace)
  | .slice (some a) n c => if a.spot.isNone then some (.slice [.lit (.int .i64 a.block), .lit (.int .i64 a.off), .lit (.int .i64 n), .lit (.int .i64 c)] [], []) else none
  | .slice none 0 0 => some (.nil, [])
  | _ => none
theorem hdR_some (g o n c : Nat) : hdR (.slice (some ⟨g, o, none⟩) n c) = some (.slice [.lit (.int .i64 g), .lit (.int .i64 o), .lit (.int .i64 n), .lit (.int .i64 c)] [], []) := rfl
theorem hdR_form {v : Value} {z : DataW Unit × List MemPlace} (h : hdR v = some z) : (v = .slice none 0 0 ∧ z = (.nil, [])) ∨ ∃ g o n c : Nat, v = .slice (some ⟨g, o, none⟩) n c ∧ z = (.slice [.lit (.int .i64 g), .lit (.int .i64 o), .lit (.int .i64 n), .lit (.int .i64 c)] [], []) := by
  unfold hdR at h
  split at h
  · rename_i a n c
    obtain ⟨g, o, s⟩ := a
    cases s with
    | none => right; exact ⟨g, o, n, c, rfl, by simpa using h.symm⟩
    | some x => simp at h
  · left; exact ⟨rfl, by simpa using h.symm⟩
  · cases h
theorem hdR_inj {v v' : Value} {z z' : DataW Unit × List MemPlace} (h : hdR v = some z) (h' : hdR v' = some z') (e : z.1 = z'.1) : v = v' := by
  rcases hdR_form h with ⟨rfl, rfl⟩ | ⟨g, o, n, c, rfl, rfl⟩ <;> rcases hdR_form h' with ⟨rfl, rfl⟩ | ⟨g', o', n', c', rfl, rfl⟩
  · rfl
  · cases e
  · cases e
  · simp only [DataW.slice.injEq, List.cons.injEq, DataW.lit.injEq, Lit.int.injEq, true_and, and_true] at e
    obtain ⟨h1, h2, h3, h4⟩ := e
    have e1 : g = g' := by omega
    have e2 : o = o' := by omega
    have e3 : n = n' := by omega
    have e4 : c = c' := by omega
    rw [e1, e2, e3, e4]
theorem hdR_own {E : TypeId} {B : Nat} {w : World} {v : Value} {xs : List Int} (h : OwnI E B w v xs) : ∃ d, hdR v = some (d, []) := by
  rcases h.shape with ⟨rfl, _⟩ | ⟨g, cap, rfl, _⟩
  · exact ⟨_, rfl⟩
  · exact ⟨_, hdR_some g 0 _ cap⟩
/-- block b is a map of at most n entries that reads as F (no entry: no number); its rows lie in blocks of S, no two in one -/
def OwnMG (P : Program) (K e : TypeId) (S : Nat → Prop) (w : World) (b n : Nat) (F : Int → List Int) : Prop :=
  ∃ (D : DataW Unit) (hd : Int → Value), w.ownsMap P K hdR b n D ∧ Maps.IsMap D ∧ (∀ k : Int, hdR (hd k) = some (D.atKey (.int .i64 k) .nil, [])) ∧ (∀ k, OwnI e 0 w (hd k) (F k)) ∧
    (∀ k g, (hd k).ownBlock = some g → S g) ∧ (∀ k k' g, k ≠ k' → (hd k).ownBlock = some g → (hd k').ownBlock ≠ some g) ∧ ¬ S b
section
variable {P : Program} {K e : TypeId} {S : Nat → Prop} {w : World} {b n : Nat} {F : Int → List Int}
theorem OwnMG.made (hb : w.heap[b]? = some (.map #[] 0)) (hS : ¬ S b) : OwnMG P K e S w b 0 (fun _ => []) := by
  refine ⟨.map [], fun _ => .slice none 0 0, ?_, Maps.isMap_empty, fun k => rfl, fun k => World.ownsRow_nil w 0 e 1, fun k g hg => by simp [Value.ownBlock] at hg, fun k k' g _ hg => by simp [Value.ownBlock] at hg, hS⟩
  obtain ⟨es, clock, h1, h2, h3, h4⟩ := World.ownsMap_made (w := w) P K hdR
  have h0 : (w.alloc (.map #[] 0)).heap[w.heap.size]? = some (.map #[] 0) := (MapKept.heap_alloc w _).1
  rw [h0] at h1
  simp only [Option.some.injEq, Obj.map.injEq] at h1
  obtain ⟨rfl, rfl⟩ := h1
  exact ⟨_, _, hb, h2, h3, h4⟩
theorem OwnMG.lt (h : OwnMG P K e S w b n F) : b < w.heap.size := by
  obtain ⟨D, hd, h1, _⟩ := h
  exact h1.lt
theorem OwnMG.block {w' : World} (h : OwnMG P K e S w b n F) (hb : w'.heap[b]? = w.heap[b]?) (hk : ∀ k, S k → k < w.heap.size → w'.heap[k]? = w.heap[k]?) : OwnMG P K e S w' b n F := by
  obtain ⟨D, hd, ⟨es, clock, hh, r⟩, h2, h3, h4, h5, h6⟩ := h
  exact ⟨D, hd, ⟨es, clock, hb.trans hh, r⟩, h2, h3, fun k => owns_block (h4 k) fun g hg => hk g (h5 k g hg) (World.ownsRow.lt (h4 k) g hg).2, h5, h6⟩
theorem OwnMG.below {w' : World} (h : OwnMG P K e S w b n F) (hb : Below w.heap.size w w') : OwnMG P K e S w' b n F := h.block (hb.block b h.lt) fun k _ hk => hb.block k hk
theorem OwnMG.al (h : OwnMG P K e S w b n F) (o : Obj) : OwnMG P K e S (w.alloc o) b n F := h.below ((Below.refl _ _).al o)
theorem OwnMG.more {n' : Nat} (h : OwnMG P K e S w b n F) (hn : n ≤ n') : OwnMG P K e S w b n' F := by
  obtain ⟨D, hd, h1, r⟩ := h
  exact ⟨D, hd, h1.mono hn, r⟩
theorem OwnMG.restrict {S' : Nat → Prop} (h : OwnMG P K e S w b n F) (hS : ∀ k, S k → k < w.heap.size → S' k) (hb : ¬ S' b) : OwnMG P K e S' w b n F := by
  obtain ⟨D, hd, h1, h2, h3, h4, h5, h6, _⟩ := h
  exact ⟨D, hd, h1, h2, h3, h4, fun k g hg => hS g (h5 k g hg) (World.ownsRow.lt (h4 k) g hg).2, h6, hb⟩
/-- a row of the map, and the way back behind a change of it -/
theorem OwnMG.get {t E : TypeId} (h : OwnMG P K e S w b n F) (ht : P.underlying t = some (.map K E)) (hK : P.underlying K = some (.int .i64)) (hz : (zeroValue E).run P w = .ok (.slice none 0 0) w) (hn : n < 1000000000)
    (k : Int) (hk : -9223372036854775808 ≤ k ∧ k ≤ 9223372036854775807) :
    ∃ v, (Instr.lookup t (.map (some b)) (.int .i64 k) false).run P w = .ok v w ∧ OwnI e 0 w v (F k) ∧ (∀ g, v.ownBlock = some g → S g) ∧
      ∀ w1 v' ys, w.grownBy w1 v.ownBlock → OwnI e 0 w1 v' ys → (∀ g, v'.ownBlock = some g → S g) → (v'.ownBlock = v.ownBlock ∨ ∃ g, v'.ownBlock = some g ∧ w.heap.size ≤ g) →
        ∃ w2, (Instr.mapUpdate t (.map (some b)) (.int .i64 k) v').run P w1 = .ok () w2 ∧ OwnMG P K e S w2 b (n + 1) (fun x => if x = k then ys else F x) ∧ w1.grownBy w2 (some b) := by
  obtain ⟨D, hd, h1, h2, h3, h4, h5, h6, h7⟩ := h
  have hkey : keyOf P K (.int .i64 k) = some (.int .i64 k) := Maps.keyOf_int_mk hK (WalkArith.wf_i64 hk)
  have hkl : WideAt.IsKeyLit (.int .i64 k) := (Maps.int_keyed hK).key hkey
  obtain ⟨v, ps, hrun, hv⟩ := h1.lookup (Maps.int_keyed hK) ht hz (zd := .nil) (zp := []) rfl hkey
  have hvk : v = hd k := hdR_inj hv (h3 k) rfl
  subst hvk
  refine ⟨hd k, hrun, h4 k, h5 k, fun w1 v' ys hg ho hSv hloc => ?_⟩
  have hne : some b ≠ (hd k).ownBlock := fun e => h7 (h5 k b e.symm)
  obtain ⟨d', hd'⟩ := hdR_own ho
  obtain ⟨w2, hrun2, hm2, hg2⟩ := (h1.kept hg hne).update (Maps.int_keyed hK) ht (by unfold maxLen; omega) hkey hd'
  refine ⟨w2, hrun2, ⟨_, fun x => if x = k then v' else hd x, hm2, h2.put _ _, fun x => ?_, fun x => ?_, fun x g hgx => ?_, fun x x' g hxx hgx => ?_, h7⟩, hg2⟩
  · by_cases hx : x = k
    · subst hx
      simp only [if_true]
      rw [Maps.atKey_put_same h2 hkl]; exact hd'
    · simp only [if_neg hx]
      rw [Maps.atKey_put_other (fun e => hx (by cases e; rfl))]; exact h3 x
  · by_cases hx : x = k
    · subst hx
      simp only [if_true]
      exact owns_block ho fun g hg' => hg2.block g (World.ownsRow.lt ho g hg').2 (fun e => h7 (by cases e; exact hSv _ hg'))
    · simp only [if_neg hx]
      refine owns_block (h4 x) fun g hg' => ?_
      have hgl := (World.ownsRow.lt (h4 x) g hg').2
      rw [hg2.block g (Nat.lt_of_lt_of_le hgl hg.size) (fun e => h7 (by cases e; exact h5 x _ hg'))]
      exact hg.block g hgl (fun e => h6 x k g hx hg' e.symm)
  · by_cases hx : x = k
    · simp only [if_pos hx] at hgx; exact hSv g hgx
    · simp only [if_neg hx] at hgx; exact h5 x g hgx
  · by_cases hx : x = k
    · simp only [if_pos hx] at hgx
      have hx' : ¬ x' = k := fun e => hxx (hx.trans e.symm)
      simp only [if_neg hx']
      intro hg'
      rcases hloc with hl | ⟨g0, hl, hle⟩
      · exact h6 k x' g (fun e => hx' e.symm) (hl ▸ hgx) hg'
      · rw [hl] at hgx; cases hgx
        have := (World.ownsRow.lt (h4 x') g hg').2
        omega
    · simp only [if_neg hx] at hgx
      by_cases hx' : x' = k
      · simp only [if_pos hx']
        intro hg'
        rcases hloc with hl | ⟨g0, hl, hle⟩
        · exact h6 x k g hx hgx (hl ▸ hg')
        · rw [hl] at hg'; cases hg'
          have := (World.ownsRow.lt (h4 x) g hgx).2
          omega
      · simp only [if_neg hx']; exact h6 x x' g hxx hgx
end
end Go.RowKit
