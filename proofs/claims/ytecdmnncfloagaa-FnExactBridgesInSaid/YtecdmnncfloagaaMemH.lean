/- Lemmas on slices of slices of int64 that are only read. No program. -/
import Derived.Test.YtecdmnncfloagaaMemG
import Derived.Test.YtecdmnncfloagaaMemMG
namespace Go.RowKit
def RdG (w : World) (v : Value) (X : List (List Int)) : Prop :=
  ∃ a cap, v = .slice a X.length cap ∧ X.length ≤ 9223372036854775807 ∧ ∀ k, k < X.length → ∃ b off u, a = some ⟨b, off, none⟩ ∧ w.cell? ⟨b, off + k, none⟩ = some u ∧ RdI w u (X.getD k [])
theorem RdG.below {a b : World} {v : Value} {X : List (List Int)} (h : RdG a v X) (hb : Below a.heap.size a b) : RdG b v X := by
  obtain ⟨ad, cap, hv, hl, hc⟩ := h
  refine ⟨ad, cap, hv, hl, fun k hk => ?_⟩
  obtain ⟨bl, off, u, ha, hcell, hu⟩ := hc k hk
  exact ⟨bl, off, u, ha, by rw [hb.cell (p := ⟨bl, off + k, none⟩) (World.block_lt_of_cell? a _ hcell)]; exact hcell, hu.below hb⟩
theorem OwnG.rd {ES e : TypeId} {lo hi : Nat} {w : World} {v : Value} {X : List (List Int)} (h : OwnG ES e lo hi w v X) : RdG w v X := by
  by_cases hne : X = []
  · subst hne
    obtain ⟨vs, k1, k2, _⟩ := h
    rcases k2.2 with ⟨rfl, _⟩ | ⟨g, cap, cur, rfl, _⟩
    · exact ⟨none, 0, rfl, by simp, fun k hk => by simp at hk⟩
    · exact ⟨_, cap, rfl, by simp, fun k hk => by simp at hk⟩
  · obtain ⟨g, n, cap, rfl, rfl, hn, hcm, h1, h2, h3⟩ := h.shape hne
    refine ⟨_, cap, rfl, by omega, fun k hk => ?_⟩
    obtain ⟨u, hu, _, hur, _⟩ := h.get k hk
    exact ⟨g, 0, u, rfl, by rw [Nat.zero_add]; exact hu, hur.rd⟩
/-- a slice of slices made anew -/
theorem make_rows {P : Program} {ops : Array Oper} {rest : List Oper} {o : Oper} {a : Act} {Q : Exit → Act → World → Prop} (hgd : o.guard = none) (x y : Operand) (t e ee : TypeId)
    (ho : o.op = .makeSlice t x y) (ht : P.underlying t = some (.slice e)) (hinfo : (P.info? e).map (fun i => (i.zero, i.size, i.bytes)) = some (some (.slice none 0 0), 1, 24))
    (w0 : World) (kx ky : IntKind) (L C : Int) (n : Nat) (hx : a.eval x = .int kx L) (hy : a.eval y = .int ky C) (hL : L = (n : Int)) (hC : C = (n : Int)) (hn : n ≤ 1000000000)
    (h : ∀ w', OwnG e ee w0.heap.size w'.heap.size w' (.slice (some ⟨w0.heap.size, 0, none⟩) n n) (List.replicate n []) → Below w0.heap.size w0 w' → w0.heap.size < w'.heap.size → wpList P ops Q rest (a.put o.dst (.slice (some ⟨w0.heap.size, 0, none⟩) n n)) w') :
    wpList P ops Q (o :: rest) a w0 := by
  obtain ⟨i0, hi, hz0, hz1, hz2⟩ := info_parts hinfo
  refine wpList_make_full w0 hgd x y t ho w0.heap.size e i0 (.slice none 0 0) 1 ht hi hz0 hz1 kx ky L C n hx hy hL hC (by rw [hz2]; omega) (by unfold maxLen; omega) (Nat.le_refl _) fun w' ho' hg => ?_
  have hlt := (World.ownsRow.lt ho' _ rfl).2
  refine h w' ?_ ((Below.refl _ _).grown hg (Nat.le_refl _) (fun k hk => by cases hk)) hlt
  have e1 : (madeCells (Value.cells (.slice none 0 0)) (n * 1)).toList = List.replicate n (Value.slice none 0 0) := by
    rw [Nat.mul_one]
    simp [Value.cells, toList_madeCells_one]
  rw [e1] at ho'
  have hg1 : ∀ i, i < n → (List.replicate n (Value.slice none 0 0)).getD i undef = .slice none 0 0 := fun i hi => by simp [List.getD, hi]
  have hg2 : ∀ i, i < n → (List.replicate n ([] : List Int)).getD i [] = [] := fun i hi => by simp [List.getD, hi]
  refine ⟨List.replicate n (.slice none 0 0), by simp, by rw [List.length_replicate]; exact ho', fun k hk => by cases hk; exact hlt, fun i hi' => ?_, fun i j hi' _ _ b hb => ?_, fun i b hi' hb => ?_⟩
  · rw [List.length_replicate] at hi'
    rw [hg1 i hi', hg2 i hi']
    exact ⟨OwnI.nil _ rfl, fun k hk => by simp [Value.ownBlock] at hk⟩
  · rw [List.length_replicate] at hi'
    rw [hg1 i hi'] at hb
    simp [Value.ownBlock] at hb
  · rw [List.length_replicate] at hi'
    rw [hg1 i hi'] at hb
    simp [Value.ownBlock] at hb
def fillG (X : List (List Int)) (k : Nat) : List (List Int) := (List.range X.length).map fun i => if i < k then X.getD i [] else []
theorem fillG_len (X : List (List Int)) (k : Nat) : (fillG X k).length = X.length := by simp [fillG]
theorem fillG_at (X : List (List Int)) (k i : Nat) (hi : i < (fillG X k).length) : (fillG X k)[i] = if i < k then X.getD i [] else [] := by simp [fillG]
theorem fillG_zero (X : List (List Int)) : fillG X 0 = List.replicate X.length [] := by
  apply List.ext_getElem
  · simp [fillG_len]
  · intro i h1 h2
    rw [fillG_at, if_neg (by omega)]
    simp
theorem fillG_all (X : List (List Int)) : fillG X X.length = X := by
  apply List.ext_getElem
  · simp [fillG_len]
  · intro i h1 h2
    rw [fillG_at, if_pos h2]
    simp [List.getD, h2]
theorem fillG_succ (X : List (List Int)) (k : Nat) : (fillG X k).set k (X.getD k []) = fillG X (k + 1) := by
  apply List.ext_getElem
  · simp [fillG_len]
  · intro i h1 h2
    rw [fillG_at, List.getElem_set]
    by_cases hik : k = i
    · subst hik
      rw [if_pos rfl, if_pos (by omega)]
    · rw [if_neg hik, fillG_at]
      by_cases hlt : i < k
      · rw [if_pos hlt, if_pos (by omega)]
      · rw [if_neg hlt, if_neg (by omega)]
def sumLen (X : List (List Int)) : Nat := (X.map List.length).sum
theorem sumLen_snoc (X : List (List Int)) (k : Nat) (hk : k < X.length) : sumLen (X.take (k + 1)) = sumLen (X.take k) + (X.getD k []).length := by
  have e1 : X.take (k + 1) = X.take k ++ [X[k]] := by rw [List.take_add_one, List.getElem?_eq_getElem hk]; rfl
  have e2 : X.getD k [] = X[k] := by simp [List.getD, hk]
  unfold sumLen
  rw [e1, e2, List.map_append, List.sum_append]
  simp
theorem sumLen_le (X : List (List Int)) (k : Nat) : sumLen (X.take k) ≤ sumLen X := by
  have h : sumLen X = sumLen (X.take k) + sumLen (X.drop k) := by
    unfold sumLen
    rw [← List.sum_append, ← List.map_append, List.take_append_drop]
  omega
theorem sumLen_at (X : List (List Int)) (k : Nat) (hk : k < X.length) : (X.getD k []).length ≤ sumLen X := by
  have h1 := sumLen_snoc X k hk
  have h2 := sumLen_le X (k + 1)
  omega
end Go.RowKit
