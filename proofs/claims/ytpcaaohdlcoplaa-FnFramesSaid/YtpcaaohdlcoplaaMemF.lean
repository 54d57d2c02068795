/- Slices of frames: a tick and a slice of dots of its own each. No program. -/
import Derived.Test.YtpcaaohdlcoplaaMemR
import Derived.Test.YtpcaaohdlcoplaaDot5
import Derived.Test.YtpcaaohdlcoplaaKeep
set_option linter.unusedVariables false
namespace Go.Proofs.Ytpcaaohdlcoplaa
open Go.ChangeShapes Go.WideShapes Go.ChangeAt Go.RowKit
def rowH (h : Int × Value) : List Value := [.int .i64 h.1, h.2]
theorem rowH_len (h : Int × Value) : (rowH h).length = 2 := rfl
abbrev Fr := Int × List Dot5
def hZ : Int × Value := (0, undef)
def fZ : Fr := (0, [])
/-- a slice of frames of the call's own -/
def OwnF (lo hi : Nat) (w : World) (v : Value) (X : List Fr) : Prop :=
  ∃ hs : List (Int × Value), hs.length = X.length ∧ OwnRow 64 2 rowH lo hi w v hs ∧
    (∀ i, i < X.length → (hs.getD i hZ).1 = (X.getD i fZ).1 ∧ OwnRow 71 5 rowD lo hi w (hs.getD i hZ).2 (X.getD i fZ).2) ∧
    (∀ i j, i < X.length → j < X.length → i ≠ j → ∀ b, (hs.getD i hZ).2.ownBlock = some b → (hs.getD j hZ).2.ownBlock ≠ some b) ∧
    ∀ i b, i < X.length → (hs.getD i hZ).2.ownBlock = some b → v.ownBlock ≠ some b
section
variable {lo hi : Nat} {w : World} {v : Value} {X : List Fr}
theorem OwnF.block {w' : World} (h : OwnF lo hi w v X) (hb : ∀ k, lo ≤ k → k < hi → k < w.heap.size → w'.heap[k]? = w.heap[k]?) : OwnF lo hi w' v X := by
  obtain ⟨hs, h1, h2, h3, h4⟩ := h
  refine ⟨hs, h1, ⟨owns_block h2.1 fun k hk => hb k (World.ownsRow.lt h2.1 k hk).1 (h2.2 k hk) (World.ownsRow.lt h2.1 k hk).2, h2.2⟩, fun i hi' => ⟨(h3 i hi').1, ?_⟩, h4⟩
  have := (h3 i hi').2
  exact ⟨owns_block this.1 fun k hk => hb k (World.ownsRow.lt this.1 k hk).1 (this.2 k hk) (World.ownsRow.lt this.1 k hk).2, this.2⟩
theorem OwnF.below {w' : World} (h : OwnF lo hi w v X) (hb : Below w.heap.size w w') : OwnF lo hi w' v X := h.block fun k _ _ hk => hb.block k hk
theorem OwnF.upd {lo' hi' : Nat} {w' : World} (h : OwnF lo hi w v X) (hb : Upd lo' hi' w w') (hd : hi ≤ lo' ∨ hi' ≤ lo) : OwnF lo hi w' v X := h.block fun k h1 h2 hk => hb.block k (by omega) hk
theorem OwnF.wide {lo' hi' : Nat} (h : OwnF lo hi w v X) (h1 : lo' ≤ lo) (h2 : hi ≤ hi') : OwnF lo' hi' w v X := by
  obtain ⟨hs, k1, k2, k3, k4⟩ := h
  exact ⟨hs, k1, k2.wide h1 h2, fun i hi' => ⟨(k3 i hi').1, (k3 i hi').2.wide h1 h2⟩, k4⟩
theorem OwnF.tight (h : OwnF lo hi w v X) : OwnF lo w.heap.size w v X := by
  obtain ⟨hs, k1, k2, k3, k4⟩ := h
  exact ⟨hs, k1, k2.tight, fun i hi' => ⟨(k3 i hi').1, (k3 i hi').2.tight⟩, k4⟩
theorem OwnF.nil (w : World) : OwnF lo hi w (.slice none 0 0) [] :=
  ⟨[], rfl, OwnRow.nil _ rfl, fun i hi => by simp at hi, fun i j hi => by simp at hi, fun i b hi => by simp at hi⟩
theorem OwnF.made {g : Nat} {w : World} (hg : g = w.heap.size) (hB : lo ≤ w.heap.size) : OwnF lo (w.heap.size + 1) (w.alloc (.cells #[] 64)) (.slice (some ⟨g, 0, none⟩) 0 0) [] :=
  ⟨[], rfl, OwnRow.made rfl hg hB, fun i hi => by simp at hi, fun i j hi => by simp at hi, fun i b hi => by simp at hi⟩
theorem getD_snoc {β : Type} (l : List β) (x d : β) (j : Nat) (hj : j < l.length + 1) : (l ++ [x]).getD j d = if j = l.length then x else l.getD j d := by
  by_cases h : j = l.length
  · subst h; rw [if_pos rfl]; simp [List.getD]
  · rw [if_neg h, List.getD_eq_getElem?_getD, List.getElem?_append_left (by omega), List.getD_eq_getElem?_getD]
theorem getD_set {β : Type} (l : List β) (x d : β) (i j : Nat) (hi : i < l.length) : (l.set i x).getD j d = if j = i then x else l.getD j d := by
  by_cases h : j = i
  · subst h; rw [if_pos rfl]; simp [List.getD, hi]
  · rw [if_neg h]; simp [List.getD, Ne.symm h]
/-- a new frame is appended -/
theorem push_f {P : Program} {ops : Array Oper} {rest : List Oper} {o : Oper} {a : Act} {Q : Exit → Act → World → Prop} (hgd : o.guard = none) (s x : Operand) (t : TypeId)
    (ho : o.op = .call { callee := .builtin .append, args := #[s, x], argTypes := #[t, t] })
    (ht : P.underlying t = some (.slice 64)) (z : Value) (bytes : Nat) (hinfo : (P.info? 64).map (fun i => (i.zero, i.size, i.bytes)) = some (some z, 2, bytes)) (hzs : z.cells.size = 2) (hby : bytes ≤ 1000)
    (lo hi : Nat) (v : Value) (X : List Fr) (tk : Int) (u : Value) (ys : List Dot5) (w0 : World) (hs : a.eval s = v) (hx : a.eval x = .slice (some ⟨w0.heap.size, 0, none⟩) 1 1)
    (hown : OwnF lo hi w0 v X) (hu : OwnRow 71 5 rowD hi w0.heap.size w0 u ys) (hone : u.oneCell' = true) (hlh : lo ≤ hi) (hlen : X.length < 1000000000) (hB : lo ≤ w0.heap.size)
    (h : ∀ v' w', OwnF lo w'.heap.size w' v' (X ++ [(tk, ys)]) → (∀ A, Below lo A w0 → Below lo A w') → w0.heap.size < w'.heap.size → (∃ ad n cap, v' = .slice (some ad) n cap) → wpList P ops Q rest (a.put o.dst v') w') :
    wpList P ops Q (o :: rest) a (w0.alloc (.cells #[.int .i64 tk, u] 64)) := by
  obtain ⟨hl, k1, k2, k3, k4, k5⟩ := hown
  refine push_row_at hgd s x t 64 ho ht z bytes hinfo hzs (by decide) hby rowH_len lo hi v hl (tk, u) _ w0 rfl ?_ hs hx k2 (by omega) hB ?_
  · intro c hc
    simp only [rowH, List.mem_cons, List.not_mem_nil, or_false] at hc
    rcases hc with rfl | rfl
    · rfl
    · exact hone
  · intro v' w' ho' hbel hsz hgg hat
    have hsome : ∃ ad n cap, v' = .slice (some ad) n cap := by
      rcases ho'.1.2 with ⟨_, hn⟩ | ⟨g, cap, cur, hv, _⟩
      · simp at hn
      · exact ⟨_, _, _, hv⟩
    refine h v' w' ?_ hbel hsz hsome
    have hv' : ∀ b, v'.ownBlock = some b → v.ownBlock = some b ∨ b = w0.heap.size + 1 := fun b hb => by
      rcases hat with h1 | h1
      · exact Or.inl (h1 ▸ hb)
      · rw [h1] at hb; cases hb; exact Or.inr rfl
    have hvu : ∀ b, u.ownBlock = some b → v.ownBlock ≠ some b := fun b hb hv => by
      have h1 := (World.ownsRow.lt hu.1 b hb).1
      have h2 := k2.2 b hv
      omega
    have hgs := hgg.size
    refine ⟨hl ++ [(tk, u)], by simp [k1], ho', fun j hj => ?_, fun j l hj hl' hne b hb => ?_, fun j b hj hb => ?_⟩
    · have hj' : j < X.length + 1 := by simpa using hj
      rw [getD_snoc _ _ _ _ (by omega), getD_snoc _ _ _ _ hj', k1]
      by_cases hjx : j = X.length
      · rw [if_pos hjx, if_pos hjx]
        exact ⟨rfl, owns_base (owns_block hu.1 fun k hk => hgg.block k (World.ownsRow.lt hu.1 k hk).2 (fun hb => hvu k hk hb.symm)) hlh, fun k hk => Nat.lt_of_lt_of_le (World.ownsRow.lt hu.1 k hk).2 hgs⟩
      · rw [if_neg hjx, if_neg hjx]
        have hr := k3 j (by omega)
        exact ⟨hr.1, owns_block hr.2.1 fun k hk => hgg.block k (World.ownsRow.lt hr.2.1 k hk).2 (fun hb => k5 j k (by omega) hk hb.symm), fun k hk => Nat.lt_of_lt_of_le (World.ownsRow.lt hr.2.1 k hk).2 hgs⟩
    · have hj' : j < X.length + 1 := by simpa using hj
      have hl2 : l < X.length + 1 := by simpa using hl'
      rw [getD_snoc _ _ _ _ (by omega), k1] at hb
      rw [getD_snoc _ _ _ _ (by omega), k1]
      by_cases hjx : j = X.length
      · rw [if_pos hjx] at hb
        rw [if_neg (by omega)]
        intro hl3
        have h1 := (k3 l (by omega)).2.2 b hl3
        have h2 := (World.ownsRow.lt hu.1 b hb).1
        omega
      · rw [if_neg hjx] at hb
        by_cases hlx : l = X.length
        · rw [if_pos hlx]
          intro hl3
          have h1 := (k3 j (by omega)).2.2 b hb
          have h2 := (World.ownsRow.lt hu.1 b hl3).1
          omega
        · rw [if_neg hlx]; exact k4 j l (by omega) (by omega) hne b hb
    · have hj' : j < X.length + 1 := by simpa using hj
      rw [getD_snoc _ _ _ _ (by omega), k1] at hb
      intro hv
      by_cases hjx : j = X.length
      · rw [if_pos hjx] at hb
        have h2 := (World.ownsRow.lt hu.1 b hb).2
        rcases hv' b hv with h1 | h1
        · exact hvu b hb h1
        · omega
      · rw [if_neg hjx] at hb
        have h2 := (World.ownsRow.lt (k3 j (by omega)).2.1 b hb).2
        rcases hv' b hv with h1 | h1
        · exact k5 j b (by omega) hb h1
        · omega
end
def RdF (w : World) (v : Value) (X : List Fr) : Prop :=
  ∃ a cap, v = .slice a X.length cap ∧ X.length ≤ 9223372036854775807 ∧ ∀ k, k < X.length → ∃ b off u, a = some ⟨b, off, none⟩ ∧ w.cell? ⟨b, off + k * 2, none⟩ = some (.int .i64 (X.getD k fZ).1) ∧ w.cell? ⟨b, off + k * 2 + 1, none⟩ = some u ∧ RdRow 5 rowD w u (X.getD k fZ).2
theorem RdF.below {a b : World} {v : Value} {X : List Fr} (h : RdF a v X) (hb : Below a.heap.size a b) : RdF b v X := by
  obtain ⟨ad, cap, hv, hl, hc⟩ := h
  refine ⟨ad, cap, hv, hl, fun k hk => ?_⟩
  obtain ⟨bl, off, u, ha, h1, h2, hu⟩ := hc k hk
  exact ⟨bl, off, u, ha, keepc hb h1, keepc hb h2, hu.below hb⟩
theorem OwnF.rd {lo hi : Nat} {w : World} {v : Value} {X : List Fr} (h : OwnF lo hi w v X) : RdF w v X := by
  obtain ⟨hs, k1, k2, k3, -⟩ := h
  obtain ⟨a, cap, hv, hl, hc⟩ := k2.rd rowH_len
  refine ⟨a, cap, by rw [← k1]; exact hv, by rw [← k1]; exact hl, fun k hk => ?_⟩
  have hkl : k < hs.length := by omega
  obtain ⟨b, off, ha, hx⟩ := hc k hkl
  have e : hs.getD k hZ = hs[k] := by simp [List.getD, hkl]
  have h3 := k3 k hk
  rw [e] at h3
  refine ⟨b, off, hs[k].2, ha, ?_, hx 1 _ rfl, h3.2.rd rowD_len⟩
  have h0 := hx 0 _ rfl
  rw [Nat.add_zero, h3.1] at h0; exact h0
/-- a frame, and the way back behind marks of it -/
theorem OwnF.line {lo hi : Nat} {w : World} {X : List Fr} {g n cap : Nat} (h : OwnF lo hi w (.slice (some ⟨g, 0, none⟩) n cap) X) (i : Nat) (hi' : i < X.length) :
    ∃ u old, w.cell? ⟨g, i * 2, none⟩ = some old ∧ w.frozen? ⟨g, i * 2, none⟩ = false ∧ w.cell? ⟨g, i * 2 + 1, none⟩ = some u ∧ lo ≤ g ∧ g < hi ∧ OwnRow 71 5 rowD lo hi w u (X.getD i fZ).2 ∧ u.ownBlock ≠ some g ∧
      ∀ (q : Int) w1 ys, w1.ownsRow lo 71 5 u ys.length (ys.flatMap rowD) → (∀ k, k < w.heap.size → some k ≠ u.ownBlock → w1.heap[k]? = (w.setCell ⟨g, i * 2, none⟩ (.int .i64 q)).heap[k]?) → OwnF lo hi w1 (.slice (some ⟨g, 0, none⟩) n cap) (X.set i (q, ys)) := by
  obtain ⟨hs, k1, k2, k3, k4, k5⟩ := h
  have hil : i < hs.length := by omega
  obtain rfl : n = hs.length := by
    rcases k2.1.2 with ⟨h0, _⟩ | ⟨g', cap', cur, he, _⟩
    · cases h0
    · cases he; rfl
  have hlt := World.ownsRow.lt k2.1 g rfl
  obtain ⟨⟨old, ho⟩, hf⟩ := OwnRow.at rowH_len k2 i 0 hil (by decide)
  rw [Nat.add_zero] at ho hf
  obtain ⟨a, cap2, he, hl, hc⟩ := k2.rd rowH_len
  cases he
  obtain ⟨b, off, ha, hx⟩ := hc i hil
  cases ha
  have hu := hx 1 _ rfl
  rw [Nat.zero_add] at hu
  have e : hs.getD i hZ = hs[i] := by simp [List.getD, hil]
  refine ⟨hs[i].2, old, ho, hf, hu, hlt.1, k2.2 g rfl, by rw [← e]; exact (k3 i hi').2, by rw [← e]; exact fun hb => k5 i g hi' hb rfl, fun q w1 ys hw1 hg => ?_⟩
  have hne : ∀ j, j < X.length → ∀ k, (hs.getD j hZ).2.ownBlock = some k → k ≠ g := fun j hj k hk e => k5 j k hj hk (by rw [e]; rfl)
  have hsg : ∀ k, k ≠ g → (w.setCell ⟨g, i * 2, none⟩ (.int .i64 q)).heap[k]? = w.heap[k]? := fun k hk => heap_setCell_other w ⟨g, i * 2, none⟩ k _ hk
  have hst := World.ownsRow.stored k2.1 (i * 2) (.int .i64 q)
  refine ⟨hs.set i (q, hs[i].2), by simp [k1], ⟨?_, k2.2⟩, fun j hj => ?_, fun j l hj hl2 hne2 b hb => ?_, fun j b hj hb => ?_⟩
  · have ec : (hs.flatMap rowH).set (i * 2) (.int .i64 q) = (hs.set i (q, hs[i].2)).flatMap rowH := by
      apply List.ext_getElem?
      intro m
      by_cases hm : m < hs.length * 2
      · have hd : m / 2 < hs.length := by omega
        have hmm : m / 2 * 2 + m % 2 = m := by omega
        have f1 := flat_get rowH_len hs (m / 2) (m % 2) hd (by omega)
        have f2 := flat_get rowH_len (hs.set i (q, hs[i].2)) (m / 2) (m % 2) (by simpa using hd) (by omega)
        rw [hmm] at f1 f2
        rw [f2, List.getElem_set, List.getElem?_set]
        by_cases h1 : i = m / 2
        · subst h1
          rw [if_pos rfl]
          by_cases h2 : m % 2 = 0
          · rw [if_pos (by omega), if_pos (by rw [flat_len rowH_len]; omega), h2]; rfl
          · rw [if_neg (by omega), f1]
            have : m % 2 = 1 := by omega
            rw [this]; rfl
        · rw [if_neg h1, if_neg (by omega), f1]
      · rw [List.getElem?_eq_none (by rw [List.length_set, flat_len rowH_len]; omega), List.getElem?_eq_none (by rw [flat_len rowH_len, List.length_set]; omega)]
    rw [List.length_set, ← ec]
    refine owns_block hst.1 fun k hk => ?_
    simp only [Value.ownBlock, Option.some.injEq] at hk
    subst hk
    exact hg _ hlt.2 (fun hb => k5 i g hi' (by rw [e]; exact hb.symm) rfl)
  · rw [List.length_set] at hj
    rw [getD_set _ _ _ _ _ hil, getD_set _ _ _ _ _ hi']
    by_cases hji : j = i
    · rw [if_pos hji, if_pos hji]
      exact ⟨rfl, hw1, by rw [← e]; exact (k3 i hi').2.2⟩
    · rw [if_neg hji, if_neg hji]
      have hr := (k3 j hj).2
      refine ⟨(k3 j hj).1, owns_block hr.1 fun k hk => ?_, hr.2⟩
      rw [hg k (World.ownsRow.lt hr.1 k hk).2 (fun hb => k4 j i hj hi' hji k hk (by rw [e]; exact hb.symm)), hsg k (hne j hj k hk)]
  · rw [List.length_set] at hj hl2
    have e2 : ∀ m, m < X.length → ((hs.set i (q, hs[i].2)).getD m hZ).2 = (hs.getD m hZ).2 := fun m hm => by
      rw [getD_set _ _ _ _ _ hil]
      by_cases hmi : m = i
      · rw [if_pos hmi, hmi, e]
      · rw [if_neg hmi]
    rw [e2 j hj] at hb
    rw [e2 l hl2]
    exact k4 j l hj hl2 hne2 b hb
  · rw [List.length_set] at hj
    have e2 : ((hs.set i (q, hs[i].2)).getD j hZ).2 = (hs.getD j hZ).2 := by
      rw [getD_set _ _ _ _ _ hil]
      by_cases hmi : j = i
      · rw [if_pos hmi, hmi, e]
      · rw [if_neg hmi]
    rw [e2] at hb
    exact k5 j b hj hb
theorem OwnF.shape {lo hi : Nat} {w : World} {v : Value} {X : List Fr} (h : OwnF lo hi w v X) (hne : 0 < X.length) : ∃ g n cap, v = .slice (some ⟨g, 0, none⟩) n cap ∧ n = X.length ∧ lo ≤ g ∧ g < hi ∧ g < w.heap.size := by
  obtain ⟨hs, k1, k2, -⟩ := h
  have hlt := World.ownsRow.lt k2.1
  rcases k2.1.2 with ⟨_, hn⟩ | ⟨g, cap, cur, rfl, _⟩
  · omega
  · exact ⟨g, _, cap, rfl, k1, (hlt g rfl).1, k2.2 g rfl, (hlt g rfl).2⟩
/-- a row in a block of its own -/
theorem own_tightR {α : Type} {E : TypeId} {sz : Nat} {row : α → List Value} {lo hi : Nat} {w : World} {u : Value} {p : List α} (h : OwnRow E sz row lo hi w u p) : ∃ l2 h2, OwnRow E sz row l2 h2 w u p ∧ h2 ≤ w.heap.size ∧
    lo ≤ l2 ∧ (∀ w2, Upd l2 h2 w w2 → Upd lo hi w w2) ∧ ∀ w2, Upd l2 h2 w w2 → ∀ k, k < w.heap.size → some k ≠ u.ownBlock → w2.heap[k]? = w.heap[k]? := by
  have hl := World.ownsRow.lt h.1
  have hhi := h.2
  obtain ⟨h1, hd⟩ := h.1
  rcases hd with ⟨hv, hn⟩ | ⟨g, cap, cur, hv, hlo, hrest⟩
  · subst hv
    have hx : p = [] := List.eq_nil_of_length_eq_zero hn
    subst hx
    exact ⟨lo, 0, OwnRow.nil _ rfl, Nat.zero_le _, Nat.le_refl _, fun w2 hu => ⟨hu.os, hu.tape, hu.output, hu.size, fun k _ hk => hu.block k (Or.inr (Nat.zero_le _)) hk⟩, fun w2 hu k hk _ => hu.block k (Or.inr (Nat.zero_le _)) hk⟩
  · subst hv
    have hg1 := hhi g rfl
    have hg2 := (hl g rfl).2
    refine ⟨g, g + 1, ⟨⟨h1, Or.inr ⟨g, cap, cur, rfl, Nat.le_refl _, hrest⟩⟩, fun k hk => ?_⟩, hg2, hlo, fun w2 hu => ⟨hu.os, hu.tape, hu.output, hu.size, fun k hk hl => hu.block k (by omega) hl⟩, fun w2 hu k hk hne => hu.block k ?_ hk⟩
    · simp only [Value.ownBlock, Option.some.injEq] at hk
      omega
    · have : k ≠ g := fun e => hne (by rw [e]; rfl)
      omega
def mixN {β : Type} (d : β) (f : Nat → β) (X : List β) (k : Nat) : List β := (List.range X.length).map fun i => if i < k then f i else X.getD i d
theorem mixN_len {β : Type} (d : β) (f : Nat → β) (X : List β) (k : Nat) : (mixN d f X k).length = X.length := by simp [mixN]
theorem mixN_at {β : Type} (d : β) (f : Nat → β) (X : List β) (k i : Nat) (hi : i < (mixN d f X k).length) : (mixN d f X k)[i] = if i < k then f i else X.getD i d := by simp [mixN]
theorem mixN_get {β : Type} (d : β) (f : Nat → β) (X : List β) (k i : Nat) (hi : i < X.length) : (mixN d f X k).getD i d = if i < k then f i else X.getD i d := by
  have h1 : i < (mixN d f X k).length := by rw [mixN_len]; exact hi
  have e : (mixN d f X k).getD i d = (mixN d f X k)[i] := by simp [List.getD, h1]
  rw [e, mixN_at]
theorem mixN_zero {β : Type} (d : β) (f : Nat → β) (X : List β) : mixN d f X 0 = X := by
  apply List.ext_getElem
  · simp [mixN_len]
  · intro i h1 h2
    rw [mixN_at, if_neg (by omega)]
    simp [List.getD, h2]
theorem mixN_succ {β : Type} (d : β) (f : Nat → β) (X : List β) (k : Nat) : (mixN d f X k).set k (f k) = mixN d f X (k + 1) := by
  apply List.ext_getElem
  · simp [mixN_len]
  · intro i h1 h2
    rw [mixN_at, List.getElem_set]
    by_cases hik : k = i
    · subst hik
      rw [if_pos rfl, if_pos (by omega)]
    · rw [if_neg hik, mixN_at]
      by_cases hlt : i < k
      · rw [if_pos hlt, if_pos (by omega)]
      · rw [if_neg hlt, if_neg (by omega)]
/-- the number of marks in frames -/
def sumF (X : List Fr) : Nat := (X.map (fun f => 1 + 5 * f.2.length)).sum
theorem sumF_snoc (X : List Fr) (k : Nat) (hk : k < X.length) : sumF (X.take (k + 1)) = sumF (X.take k) + (1 + 5 * (X.getD k fZ).2.length) := by
  have e1 : X.take (k + 1) = X.take k ++ [X[k]] := by rw [List.take_add_one, List.getElem?_eq_getElem hk]; rfl
  have e2 : X.getD k fZ = X[k] := by simp [List.getD, hk]
  unfold sumF
  rw [e1, e2, List.map_append, List.sum_append]
  simp
theorem sumF_le (X : List Fr) (k : Nat) : sumF (X.take k) ≤ sumF X := by
  have h : sumF X = sumF (X.take k) + sumF (X.drop k) := by
    unfold sumF
    rw [← List.sum_append, ← List.map_append, List.take_append_drop]
  omega
end Go.Proofs.Ytpcaaohdlcoplaa
