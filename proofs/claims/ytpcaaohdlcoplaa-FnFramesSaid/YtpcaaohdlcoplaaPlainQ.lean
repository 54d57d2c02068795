/- The dots of a frame in the order of props: plain facts. No program. -/
import Derived.Test.YtpcaaohdlcoplaaPlainK
namespace Go.Proofs.Ytpcaaohdlcoplaa
set_option linter.unusedVariables false
theorem at_memN {l : List Nat} {i : Nat} (h : i < l.length) : l.getD i 0 ∈ l := by simp [List.getD, h]
/-- where a number is put into a list in ascending order: from the end on -/
def posI (o : Int) (l : List Int) : Nat → Nat
  | 0 => 0
  | k + 1 => if o < l.getD k 0 then posI o l k else k + 1
theorem posI_le (o : Int) (l : List Int) : ∀ k, posI o l k ≤ k
  | 0 => Nat.le_refl _
  | k + 1 => by
    have ih := posI_le o l k
    unfold posI
    split <;> omega
theorem posI_after (o : Int) (l : List Int) : ∀ k j, posI o l k ≤ j → j < k → o < l.getD j 0
  | 0, j, _, h => by omega
  | k + 1, j, h1, h2 => by
    unfold posI at h1
    split at h1
    · rename_i h0
      by_cases e : j = k
      · subst e; exact h0
      · exact posI_after o l k j h1 (by omega)
    · omega
theorem posI_before (o : Int) (l : List Int) : ∀ k, posI o l k = 0 ∨ ¬ o < l.getD (posI o l k - 1) 0
  | 0 => Or.inl rfl
  | k + 1 => by
    unfold posI
    split
    · exact posI_before o l k
    · rename_i h; exact Or.inr h
def Asc (M : List Int) : Prop := ∀ i j, i < j → j < M.length → M.getD i 0 < M.getD j 0
theorem asc_ins {M : List Int} {o : Int} (h : Asc M) (hn : o ∉ M) : Asc (M.take (posI o M M.length) ++ [o] ++ M.drop (posI o M M.length)) := by
  have hk := posI_le o M M.length
  have ha := posI_after o M M.length
  have hb := posI_before o M M.length
  generalize posI o M M.length = k at *
  have hlt : ∀ i, i < k → M.getD i 0 < o := fun i hi => by
    rcases hb with hb | hb
    · omega
    · have h1 : M.getD (k - 1) 0 ≤ o := by omega
      have h2 : M.getD (k - 1) 0 ≠ o := fun e => hn (by rw [← e]; exact at_mem (by omega))
      by_cases e : i = k - 1
      · subst e; omega
      · have := h i (k - 1) (by omega) (by omega); omega
  have hget : ∀ i, i < M.length + 1 → (M.take k ++ [o] ++ M.drop k).getD i 0 = if i < k then M.getD i 0 else if i = k then o else M.getD (i - 1) 0 := fun i hi => by
    have hl1 : (M.take k).length = k := by rw [List.length_take]; omega
    simp only [List.getD_eq_getElem?_getD]
    by_cases h1 : i < k
    · rw [if_pos h1, List.append_assoc, List.getElem?_append_left (by omega), List.getElem?_take_of_lt h1]
    · rw [if_neg h1]
      by_cases h2 : i = k
      · subst h2
        rw [if_pos rfl, List.append_assoc, List.getElem?_append_right (by omega), hl1, Nat.sub_self]
        rfl
      · rw [if_neg h2, List.getElem?_append_right (by rw [List.length_append, hl1]; simp; omega), List.length_append, hl1, List.getElem?_drop]
        congr 2
        simp; omega
  intro i j hij hj
  have hlen : (M.take k ++ [o] ++ M.drop k).length = M.length + 1 := by simp; omega
  rw [hlen] at hj
  rw [hget i (by omega), hget j (by omega)]
  by_cases h1 : j < k
  · rw [if_pos (by omega), if_pos h1]; exact h i j hij (by omega)
  · rw [if_neg h1]
    by_cases h2 : j = k
    · rw [if_pos h2, if_pos (by omega)]; exact hlt i (by omega)
    · rw [if_neg h2]
      have h3 : o < M.getD (j - 1) 0 := ha (j - 1) (by omega) (by omega)
      by_cases h4 : i < k
      · rw [if_pos h4]; have := hlt i h4; omega
      · rw [if_neg h4]
        by_cases h5 : i = k
        · rw [if_pos h5]; exact h3
        · rw [if_neg h5]; exact h (i - 1) (j - 1) (by omega) (by omega)
theorem asc_all {M : List Int} {P : Nat} (h : Asc M) (hb : ∀ x ∈ M, 0 ≤ x ∧ x < P) (hl : M.length = P) : ∀ i, i < P → M.getD i 0 = i := by
  have low : ∀ i, i < P → (i : Int) ≤ M.getD i 0 := by
    intro i
    induction i with
    | zero => intro hi; exact (hb _ (at_mem (by omega))).1
    | succ i ih =>
      intro hi
      have := h i (i + 1) (by omega) (by omega)
      have := ih (by omega)
      omega
  have up : ∀ d i, i + d + 1 = P → M.getD i 0 ≤ i := by
    intro d
    induction d with
    | zero => intro i hi; have := (hb _ (at_mem (p := M) (i := i) (by omega))).2; omega
    | succ d ih =>
      intro i hi
      have h1 := h i (i + 1) (by omega) (by omega)
      have h2 := ih (i + 1) (by omega)
      omega
  intro i hi
  have := low i hi
  have := up (P - 1 - i) i (by omega)
  omega
/-- the beats of the next throws, in the order of props -/
def insN (p : List Int) (l : List Nat) (b : Nat) : List Nat := l.take (posI (ordA p b) (l.map (ordA p)) l.length) ++ [b] ++ l.drop (posI (ordA p b) (l.map (ordA p)) l.length)
def winS (p : List Int) (f : Nat) : Nat → List Nat
  | 0 => []
  | n + 1 => if nxB p f (f + n) = true then insN p (winS p f n) (f + n) else winS p f n
section
variable {p : List Int}
theorem win_mem (f : Nat) : ∀ n c, c ∈ winS p f n ↔ f ≤ c ∧ c < f + n ∧ nxB p f c = true
  | 0, c => by simp [winS]; omega
  | n + 1, c => by
    have ih := win_mem f n c
    unfold winS
    split
    · rename_i h
      have hm : c ∈ insN p (winS p f n) (f + n) ↔ c ∈ winS p f n ∨ c = f + n := by
        unfold insN
        conv => rhs; rw [← List.take_append_drop (posI (ordA p (f + n)) ((winS p f n).map (ordA p)) (winS p f n).length) (winS p f n)]
        simp only [List.mem_append, List.mem_singleton]
        constructor
        · rintro ((h1 | h1) | h1)
          · exact Or.inl (Or.inl h1)
          · exact Or.inr h1
          · exact Or.inl (Or.inr h1)
        · rintro ((h1 | h1) | h1)
          · exact Or.inl (Or.inl h1)
          · exact Or.inr h1
          · exact Or.inl (Or.inr h1)
      rw [hm, ih]
      constructor
      · rintro (⟨h1, h2, h3⟩ | rfl)
        · exact ⟨h1, by omega, h3⟩
        · exact ⟨by omega, by omega, h⟩
      · rintro ⟨h1, h2, h3⟩
        by_cases e : c = f + n
        · exact Or.inr e
        · exact Or.inl ⟨h1, by omega, h3⟩
    · rename_i h
      rw [ih]
      constructor
      · rintro ⟨h1, h2, h3⟩; exact ⟨h1, by omega, h3⟩
      · rintro ⟨h1, h2, h3⟩
        refine ⟨h1, ?_, h3⟩
        by_cases e : c = f + n
        · subst e; exact absurd h3 h
        · omega
theorem ins_map (l : List Nat) (b : Nat) : (insN p l b).map (ordA p) = (l.map (ordA p)).take (posI (ordA p b) (l.map (ordA p)) (l.map (ordA p)).length) ++ [ordA p b] ++ (l.map (ordA p)).drop (posI (ordA p b) (l.map (ordA p)) (l.map (ordA p)).length) := by
  unfold insN
  rw [List.map_append, List.map_append, List.map_take, List.map_drop, List.length_map]
  rfl
theorem win_asc (hv : validP p = true) (f : Nat) : ∀ n, Asc ((winS p f n).map (ordA p))
  | 0 => by intro i j h1 h2; simp [winS] at h2
  | n + 1 => by
    have ih := win_asc hv f n
    unfold winS
    split
    · rename_i h
      rw [ins_map]
      refine asc_ins ih (fun hm => ?_)
      obtain ⟨c, hc, he⟩ := List.mem_map.1 hm
      obtain ⟨h1, h2, h3⟩ := (win_mem f n c).1 hc
      have := nx_inj hv h1 (show f ≤ f + n by omega) h3 h he
      omega
    · exact ih
theorem ins_len (l : List Nat) (b : Nat) : (insN p l b).length = l.length + 1 := by
  have h := posI_le (ordA p b) (l.map (ordA p)) l.length
  unfold insN
  simp only [List.length_append, List.length_take, List.length_drop, List.length_cons, List.length_nil]
  omega
theorem win_len (f : Nat) : ∀ n, ((winS p f n).length : Int) = sumN (fun t => if stB p f t = true then (1 : Int) else 0) n
  | 0 => rfl
  | n + 1 => by
    have ih := win_len f n
    have e : (stB p f n = true) ↔ nxB p f (f + n) = true := by
      rw [stB_fr]; unfold nxB
      rw [Int.natCast_add]
    unfold winS
    simp only [sumN]
    split
    · rename_i h
      rw [ins_len, if_pos (e.2 h)]
      omega
    · rename_i h
      rw [if_neg (fun h1 => h (e.1 h1))]
      omega
theorem win_full (hv : validP p = true) (f : Nat) : ((winS p f 16).length : Int) = propsP p := by
  rw [win_len]
  exact air_sum hv f (fun x hx => by have := (validP_iff.1 hv).1.1 x hx; omega)
theorem props_nonneg (hv : validP p = true) : 0 ≤ propsP p := by
  have := win_full hv 0
  omega
/-- each prop has its next throw: the list of them is in the order of props -/
theorem win_ord (hv : validP p = true) (f q : Nat) (hq : (q : Int) < propsP p) : ordA p ((winS p f 16).getD q 0) = q := by
  have hl := win_full hv f
  have h := asc_all (P := (propsP p).toNat) (win_asc hv f 16) (fun x hx => by
    obtain ⟨c, hc, rfl⟩ := List.mem_map.1 hx
    obtain ⟨h1, h2, h3⟩ := (win_mem f 16 c).1 hc
    have := ord_lt hv (nx_at hv h1 h3)
    omega) (by rw [List.length_map]; omega) q (by omega)
  rw [← h]
  have hlt : q < (winS p f 16).length := by omega
  simp [List.getD, hlt]
/-- the beat of a prop's next throw -/
def bqP (p : List Int) (f q : Nat) : Nat := (winS p f 16).getD q 0
theorem bq_ok (hv : validP p = true) (f q : Nat) (hq : (q : Int) < propsP p) : f ≤ bqP p f q ∧ bqP p f q < f + 16 ∧ nxB p f (bqP p f q) = true ∧ ordA p (bqP p f q) = q := by
  have hl := win_full hv f
  have h1 := at_memN (l := winS p f 16) (i := q) (by omega)
  obtain ⟨h2, h3, h4⟩ := (win_mem f 16 _).1 h1
  exact ⟨h2, h3, h4, win_ord hv f q hq⟩
theorem bq_eq (hv : validP p = true) {f q c : Nat} (hq : (q : Int) < propsP p) (hc : f ≤ c) (hn : nxB p f c = true) (ho : ordA p c = q) : bqP p f q = c := by
  obtain ⟨h1, h2, h3, h4⟩ := bq_ok hv f q hq
  exact nx_inj hv h1 hc h3 hn (h4.trans ho.symm)
/-- the first throw of a prop from f on is its next one -/
theorem nx_ex (hv : validP p = true) {f : Nat} (b : Nat) : f ≤ b → atP p b ≠ 0 → ∃ c : Nat, f ≤ c ∧ c ≤ b ∧ nxB p f c = true ∧ ordA p c = ordA p b := by
  induction b using Nat.strongRecOn with
  | _ b ih =>
    intro hb ha
    cases hn : nxB p f b
    · obtain ⟨c, h1, h2, h3, h4⟩ := nx_back hv hb ha hn
      obtain ⟨d, g1, g2, g3, g4⟩ := ih c h2 h1 h3
      exact ⟨d, g1, by omega, g3, g4.trans h4⟩
    · exact ⟨b, hb, Nat.le_refl _, hn, rfl⟩
/-- whether a prop's next throw lies before a beat -/
def seenB (p : List Int) (f b q : Nat) : Bool := decide (bqP p f q < b)
theorem seen_none (hv : validP p = true) {f b : Nat} (hb : f ≤ b) (ha : atP p b = 0) {q : Nat} (hq : (q : Int) < propsP p) : seenB p f (b + 1) q = seenB p f b q := by
  obtain ⟨h1, h2, h3, h4⟩ := bq_ok hv f q hq
  unfold seenB
  rw [decide_eq_decide]
  have : bqP p f q ≠ b := fun e => by rw [e] at h3; exact nx_at hv hb h3 ha
  omega
theorem seen_old (hv : validP p = true) {f b : Nat} (hb : f ≤ b) (ha : atP p b ≠ 0) (hs : seenB p f b (ordA p b).toNat = true) {q : Nat} (hq : (q : Int) < propsP p) : seenB p f (b + 1) q = seenB p f b q := by
  have ho := ord_lt hv ha
  obtain ⟨h1, h2, h3, h4⟩ := bq_ok hv f q hq
  unfold seenB at *
  rw [decide_eq_decide]
  have : bqP p f q ≠ b := fun e => by
    rw [e] at h4
    rw [h4, Int.toNat_natCast, e, decide_eq_true_eq] at hs
    omega
  omega
theorem seen_new (hv : validP p = true) {f b : Nat} (hb : f ≤ b) (ha : atP p b ≠ 0) (hs : seenB p f b (ordA p b).toNat = false) : bqP p f (ordA p b).toNat = b ∧ nxB p f b = true ∧ ∀ q : Nat, (q : Int) < propsP p → seenB p f (b + 1) q = (if q = (ordA p b).toNat then true else seenB p f b q) := by
  have ho := ord_lt hv ha
  have hq : (((ordA p b).toNat : Nat) : Int) < propsP p := by omega
  obtain ⟨h1, h2, h3, h4⟩ := bq_ok hv f _ hq
  have e : bqP p f (ordA p b).toNat = b := by
    obtain ⟨c, g1, g2, g3, g4⟩ := nx_ex hv b hb ha
    have := bq_eq hv hq g1 g3 (by rw [g4]; omega)
    unfold seenB at hs
    rw [decide_eq_false_iff_not] at hs
    omega
  refine ⟨e, by rw [← e]; exact h3, fun q hq2 => ?_⟩
  split
  · rename_i hqe
    unfold seenB
    rw [hqe, e]; simp
  · rename_i hqe
    unfold seenB
    rw [decide_eq_decide]
    have : bqP p f q ≠ b := fun e2 => by
      have h5 := (bq_ok hv f q hq2).2.2.2
      rw [e2] at h5
      omega
    omega
theorem seen_all (hv : validP p = true) {f q : Nat} (hq : (q : Int) < propsP p) {m : Nat} (hm : ∀ x ∈ p, x ≤ m) : seenB p f (f + m) q = true := by
  obtain ⟨h1, h2, h3, h4⟩ := bq_ok hv f q hq
  have h5 := of_decide_eq_true h3
  have h6 : bqP p f q - frP p (bqP p f q) ≤ (m : Int) := by
    have hn := li_ok hv (mod_bd hv (bqP p f q))
    have := hm _ (at_mem (p := p) hn.1)
    unfold frP
    omega
  unfold seenB
  rw [decide_eq_true_eq]
  omega
end
end Go.Proofs.Ytpcaaohdlcoplaa
