/- Plain lemmas on bits, counts of bits and lists of masks. No program. -/
import Derived.Test.YtecdmnncfloagaaPlain
namespace Go.Proofs.Ytecdmnncfloagaa
/-- how many of the first k bits are 1 -/
def popTo (m : Int) (k : Nat) : Int := (((List.range k).filter fun t : Nat => bitB m (t : Int)).length : Int)
def popI (m : Int) : Int := popTo m 10
theorem popTo_zero (m : Int) : popTo m 0 = 0 := rfl
theorem popTo_yes {m : Int} {k : Nat} (h : bitB m k = true) : popTo m (k + 1) = popTo m k + 1 := by simp [popTo, List.range_succ, List.filter_append, h]
theorem popTo_no {m : Int} {k : Nat} (h : bitB m k = false) : popTo m (k + 1) = popTo m k := by simp [popTo, List.range_succ, List.filter_append, h]
theorem popTo_bd (m : Int) (k : Nat) : 0 ≤ popTo m k ∧ popTo m k ≤ k := by
  unfold popTo
  have := List.length_filter_le (fun t : Nat => bitB m (t : Int)) (List.range k)
  simp at this
  omega
theorem bit_high {m : Int} {t j : Nat} (h0 : 0 ≤ m) (hm : m < 2 ^ j) (ht : j ≤ t) : bitB m t = false := by
  have h1 : m / 2 ^ t = 0 := by
    apply Int.ediv_eq_zero_of_lt h0
    have h2 : (2 : Int) ^ j ≤ 2 ^ t := by
      have h3 : 2 ^ j ≤ 2 ^ t := Nat.pow_le_pow_right (by decide) ht
      have h4 : ((2 ^ j : Nat) : Int) ≤ ((2 ^ t : Nat) : Int) := by exact_mod_cast h3
      simpa using h4
    omega
  simp [bitB, h1]
theorem popTo_high {m : Int} {j : Nat} (h0 : 0 ≤ m) (hm : m < 2 ^ j) (d : Nat) : popTo m (j + d) = popTo m j := by
  induction d with
  | zero => rfl
  | succ d ih => rw [← Nat.add_assoc, popTo_no (bit_high h0 hm (by omega)), ih]
theorem popTo_all {m : Int} {j : Nat} (h0 : 0 ≤ m) (hm : m < 2 ^ j) (hj : j ≤ 10) : popTo m j = popI m := by
  have := popTo_high h0 hm (10 - j)
  rw [show j + (10 - j) = 10 by omega] at this
  exact this.symm
theorem bitB_mod (m : Int) (j : Nat) : bitB m j = decide ((m / 2 ^ j) % 2 = 1) := by simp [bitB]
theorem popTo_step (m q : Int) (j : Nat) (hq : q = m / 2 ^ j) : popTo m (j + 1) = popTo m j + q % 2 := by
  cases hb : bitB m j
  · rw [popTo_no hb]
    rw [bitB_mod, ← hq] at hb
    have := of_decide_eq_false hb
    omega
  · rw [popTo_yes hb]
    rw [bitB_mod, ← hq] at hb
    have := of_decide_eq_true hb
    omega
theorem div_step (m : Int) (j : Nat) : m / 2 ^ j / 2 = m / 2 ^ (j + 1) := by
  rw [Int.pow_succ, Int.ediv_ediv_of_nonneg (Int.pow_nonneg (by decide))]
/-- the masks of the states with so many props, the first k candidates -/
def maskTo (n : Int) (k : Nat) : List Int := ((List.range k).map Int.ofNat).filter fun m => popI m == n
def maskL (n h : Int) : List Int := maskTo n (2 ^ h.toNat)
theorem maskTo_yes {n : Int} {k : Nat} (h : (popI (k : Int) == n) = true) : maskTo n (k + 1) = maskTo n k ++ [(k : Int)] := by
  simp only [maskTo, List.range_succ, List.map_append, List.map_cons, List.map_nil, List.filter_append, Int.ofNat_eq_natCast, List.filter_cons, h, if_true, List.filter_nil]
theorem maskTo_no {n : Int} {k : Nat} (h : (popI (k : Int) == n) = false) : maskTo n (k + 1) = maskTo n k := by
  simp [maskTo, List.range_succ, List.map_append, List.filter_append, h]
theorem maskTo_len (n : Int) (k : Nat) : (maskTo n k).length ≤ k := by
  have := List.length_filter_le (fun m => popI m == n) ((List.range k).map Int.ofNat)
  simpa [maskTo] using this
theorem mem_maskL {n h m : Int} : m ∈ maskL n h ↔ (0 ≤ m ∧ m < 2 ^ h.toNat) ∧ popI m = n := by
  unfold maskL maskTo
  rw [List.mem_filter, List.mem_map]
  constructor
  · rintro ⟨⟨a, ha, rfl⟩, hp⟩
    have h2 : a < 2 ^ h.toNat := List.mem_range.1 ha
    have h3 : ((a : Nat) : Int) < ((2 ^ h.toNat : Nat) : Int) := by exact_mod_cast h2
    refine ⟨⟨Int.natCast_nonneg _, ?_⟩, by simpa using hp⟩
    simpa using h3
  · rintro ⟨⟨h0, h1⟩, hp⟩
    obtain ⟨a, rfl⟩ := Int.eq_ofNat_of_zero_le h0
    refine ⟨⟨a, List.mem_range.2 ?_, rfl⟩, by simpa using hp⟩
    have h3 : ((a : Nat) : Int) < ((2 ^ h.toNat : Nat) : Int) := by simpa using h1
    exact_mod_cast h3
theorem maskTo_sorted (n : Int) (k : Nat) : (maskTo n k).Pairwise (· < ·) := by
  unfold maskTo
  apply List.Pairwise.filter
  rw [List.pairwise_map]
  exact (List.pairwise_lt_range (n := k)).imp (fun h => by show (_ : Int) < _; simp only [Int.ofNat_eq_natCast]; omega)
theorem maskL_sorted (n h : Int) : (maskL n h).Pairwise (· < ·) := maskTo_sorted n _
theorem nodup_of_sorted {L : List Int} (h : L.Pairwise (· < ·)) : L.Nodup := h.imp (fun h => by omega)
theorem sorted_get {L : List Int} (h : L.Pairwise (· < ·)) (i j : Nat) (hi : i < L.length) (hj : j < L.length) : L[i] < L[j] ↔ i < j := by
  constructor
  · intro hl
    rcases Nat.lt_trichotomy i j with h1 | h1 | h1
    · exact h1
    · subst h1; omega
    · have := List.pairwise_iff_getElem.1 h j i hj hi h1; omega
  · intro hl; exact List.pairwise_iff_getElem.1 h i j hi hj hl
/-- the index of a mask -/
def idx (L : List Int) (m : Int) : Nat := L.idxOf m
theorem idx_lt {L : List Int} {m : Int} (h : m ∈ L) : idx L m < L.length := List.idxOf_lt_length_of_mem h
theorem idx_get {L : List Int} {m : Int} (h : m ∈ L) : L[idx L m]'(idx_lt h) = m := List.getElem_idxOf (idx_lt h)
theorem idx_at {L : List Int} (hn : L.Nodup) (i : Nat) (hi : i < L.length) : idx L L[i] = i := hn.idxOf_getElem i hi
/-- the map of the first k masks' indices -/
def idxTo (L : List Int) (k : Nat) : Int → Option Int := fun x => if x ∈ L.take k then some ((idx L x : Nat) : Int) else none
def idxM (L : List Int) : Int → Option Int := fun x => if x ∈ L then some ((idx L x : Nat) : Int) else none
theorem idxTo_zero (L : List Int) : idxTo L 0 = fun _ => none := by funext x; simp [idxTo]
theorem idxTo_all (L : List Int) : idxTo L L.length = idxM L := by funext x; simp [idxTo, idxM]
theorem idxTo_succ {L : List Int} (hn : L.Nodup) (k : Nat) (hk : k < L.length) : (fun x => if x = L.getD k 0 then some ((k : Nat) : Int) else idxTo L k x) = idxTo L (k + 1) := by
  funext x
  have e : L.getD k 0 = L[k] := by simp [List.getD, hk]
  have e2 : L.take (k + 1) = L.take k ++ [L[k]] := by rw [List.take_add_one, List.getElem?_eq_getElem hk]; rfl
  unfold idxTo
  rw [e, e2]
  by_cases hx : x = L[k]
  · subst hx
    rw [if_pos rfl, if_pos (List.mem_append_right _ (List.mem_singleton.2 rfl)), idx_at hn k hk]
  · rw [if_neg hx]
    by_cases hm : x ∈ L.take k
    · rw [if_pos hm, if_pos (List.mem_append_left _ hm)]
    · rw [if_neg hm, if_neg (fun h => (List.mem_append.1 h).elim hm (fun h => hx (List.mem_singleton.1 h)))]
theorem idxM_get {L : List Int} {m : Int} (h : m ∈ L) : (idxM L m).getD 0 = ((idx L m : Nat) : Int) := by simp [idxM, h]
/-- the mask one beat after a throw -/
def nextM (m t : Int) : Int := bif decide (0 < t) then (((m / 2).toNat ||| 2 ^ (t - 1).toNat : Nat) : Int) else m / 2
theorem bit_nat (a t : Nat) : bitB (a : Int) (t : Int) = a.testBit t := by
  have e : ((a : Int) / 2 ^ ((t : Int)).toNat % 2 = 1) ↔ (a / 2 ^ t % 2 = 1) := by
    rw [Int.toNat_natCast]
    constructor
    · intro h
      have : (((a / 2 ^ t % 2 : Nat)) : Int) = 1 := by simpa using h
      omega
    · intro h
      have : (((a / 2 ^ t % 2 : Nat)) : Int) = 1 := by omega
      simpa using this
  unfold bitB
  rw [Nat.testBit_eq_decide_div_mod_eq]
  simp only [e]
theorem bit_half (m : Int) (t : Nat) (h : 0 ≤ m) : bitB (m / 2) t = bitB m ((t + 1 : Nat) : Int) := by
  obtain ⟨a, rfl⟩ := Int.eq_ofNat_of_zero_le h
  have e : ((a : Int) / 2) = ((a / 2 : Nat) : Int) := by simp
  rw [e, bit_nat, bit_nat, Nat.testBit_succ]
theorem bit_or (a s t : Nat) : bitB ((a ||| 2 ^ s : Nat) : Int) t = (bitB (a : Int) t || decide (s = t)) := by
  rw [bit_nat, bit_nat, Nat.testBit_or, Nat.testBit_two_pow]
theorem popTo_half (m : Int) (h : 0 ≤ m) (k : Nat) : popTo m (k + 1) = (bif bitB m 0 then 1 else 0) + popTo (m / 2) k := by
  induction k with
  | zero =>
    cases hb : bitB m 0
    · rw [popTo_no (by simpa using hb)]; rfl
    · rw [popTo_yes (by simpa using hb)]; rfl
  | succ k ih =>
    have hh := bit_half m k h
    cases hb : bitB m ((k + 1 : Nat) : Int)
    · rw [popTo_no hb, ih, popTo_no (by rw [hh]; exact hb)]
    · rw [popTo_yes hb, ih, popTo_yes (by rw [hh]; exact hb)]; omega
theorem popTo_or (a s k : Nat) (hb : bitB (a : Int) s = false) : popTo ((a ||| 2 ^ s : Nat) : Int) k = popTo (a : Int) k + (if s < k then 1 else 0) := by
  induction k with
  | zero => simp [popTo]
  | succ k ih =>
    have ho := bit_or a s k
    by_cases hs : s = k
    · subst hs
      rw [hb] at ho
      rw [popTo_yes (by rw [ho]; simp), popTo_no hb, ih, if_neg (by omega), if_pos (by omega)]; omega
    · have hd : decide (s = k) = false := by simp [hs]
      rw [hd, Bool.or_false] at ho
      cases hk : bitB (a : Int) k
      · rw [popTo_no (by rw [ho]; exact hk), popTo_no hk, ih]
        have : (s < k + 1) ↔ (s < k) := by omega
        simp only [this]
      · rw [popTo_yes (by rw [ho]; exact hk), popTo_yes hk, ih]
        have : (s < k + 1) ↔ (s < k) := by omega
        simp only [this]
        omega
theorem canB_iff {h m t : Int} : canB h m t = true ↔ (t = 0 ∧ bitB m 0 = false) ∨ (t ≠ 0 ∧ (1 ≤ t ∧ t ≤ h) ∧ bitB m 0 = true ∧ bitB m t = false) := by
  unfold canB
  by_cases ht : t = 0
  · subst ht; simp
  · have e : (t == 0) = false := by simp [ht]
    rw [e, cond_false, Bool.and_eq_true, Bool.and_eq_true, inB_iff]
    simp [ht]
    constructor
    · rintro ⟨⟨h1, h2⟩, h3⟩; exact ⟨h1, h2, h3⟩
    · rintro ⟨h1, h2, h3⟩; exact ⟨⟨h1, h2⟩, h3⟩
theorem next_bd {h m t : Int} (hh : 1 ≤ h ∧ h ≤ 10) (hm : 0 ≤ m ∧ m < 2 ^ h.toNat) (ht : t ≤ h) : 0 ≤ nextM m t ∧ nextM m t < 2 ^ h.toNat := by
  obtain ⟨a, rfl⟩ := Int.eq_ofNat_of_zero_le hm.1
  have h2 : a < 2 ^ h.toNat := by
    have : ((a : Nat) : Int) < ((2 ^ h.toNat : Nat) : Int) := by simpa using hm.2
    exact_mod_cast this
  have e : ((a : Int) / 2) = ((a / 2 : Nat) : Int) := by simp
  unfold nextM
  cases hd : decide (0 < t)
  · rw [cond_false, e]
    refine ⟨Int.natCast_nonneg _, ?_⟩
    have h3 : ((a / 2 : Nat) : Int) < ((2 ^ h.toNat : Nat) : Int) := by exact_mod_cast (show a / 2 < 2 ^ h.toNat by omega)
    simpa using h3
  · have htp := of_decide_eq_true hd
    rw [cond_true, e, Int.toNat_natCast]
    refine ⟨Int.natCast_nonneg _, ?_⟩
    have h4 : a / 2 ||| 2 ^ (t - 1).toNat < 2 ^ h.toNat := Nat.or_lt_two_pow (by omega) (Nat.pow_lt_pow_right (by decide) (by omega))
    have h3 : ((a / 2 ||| 2 ^ (t - 1).toNat : Nat) : Int) < ((2 ^ h.toNat : Nat) : Int) := by exact_mod_cast h4
    simpa using h3
theorem next_pop {h m t : Int} (hh : 1 ≤ h ∧ h ≤ 10) (hm : 0 ≤ m ∧ m < 2 ^ h.toNat) (hc : canB h m t = true) : popI (nextM m t) = popI m := by
  have hp := pow_le_1024 h.toNat (by omega)
  have h10 : popTo m 11 = popI m := popTo_high (j := 10) hm.1 (by omega) 1
  have hh2 := popTo_half m hm.1 10
  rw [h10] at hh2
  rcases canB_iff.1 hc with ⟨rfl, hb⟩ | ⟨ht, ⟨h1, h2⟩, hb0, hbt⟩
  · rw [hb] at hh2
    have e : nextM m 0 = m / 2 := rfl
    rw [e, hh2]; simp [popI]
  · rw [hb0] at hh2
    obtain ⟨a, rfl⟩ := Int.eq_ofNat_of_zero_le hm.1
    have e : ((a : Int) / 2) = ((a / 2 : Nat) : Int) := by simp
    obtain ⟨s, rfl⟩ : ∃ s : Nat, t = ((s + 1 : Nat) : Int) := ⟨(t - 1).toNat, by omega⟩
    have hbs : bitB ((a / 2 : Nat) : Int) s = false := by
      have := bit_half (a : Int) s (Int.natCast_nonneg _)
      rw [e] at this
      rw [this]; exact hbt
    have en : nextM (a : Int) ((s + 1 : Nat) : Int) = ((a / 2 ||| 2 ^ s : Nat) : Int) := by
      unfold nextM
      rw [show decide (0 < ((s + 1 : Nat) : Int)) = true from decide_eq_true (by omega), cond_true, e, Int.toNat_natCast, show (((s + 1 : Nat) : Int) - 1).toNat = s by omega]
    rw [en, hh2, e]
    have h5 := popTo_or (a / 2) s 10 hbs
    rw [if_pos (by omega)] at h5
    unfold popI
    rw [h5]; simp; omega
theorem next_mem {n h m t : Int} (hh : 1 ≤ h ∧ h ≤ 10) (hm : m ∈ maskL n h) (hc : canB h m t = true) : nextM m t ∈ maskL n h := by
  obtain ⟨h1, h2⟩ := mem_maskL.1 hm
  have ht : t ≤ h := by
    rcases canB_iff.1 hc with ⟨rfl, _⟩ | ⟨_, ⟨_, h4⟩, _⟩ <;> omega
  exact mem_maskL.2 ⟨next_bd hh h1 ht, by rw [next_pop hh h1 hc]; exact h2⟩
theorem or_i64 (a b : Int) (ha : 0 ≤ a ∧ a < 2 ^ 62) (hb : 0 ≤ b ∧ b < 2 ^ 62) : bits .or .i64 a b = ((a.toNat ||| b.toNat : Nat) : Int) := by
  obtain ⟨x, rfl⟩ := Int.eq_ofNat_of_zero_le ha.1
  obtain ⟨y, rfl⟩ := Int.eq_ofNat_of_zero_le hb.1
  have := (bits_nat .i64 62 (by decide) wraps_i64 x y (by omega) (by omega)).2
  rw [this]; simp
theorem next_or {m t : Int} (hm : 0 ≤ m ∧ m < 1024) (ht : 0 < t ∧ t ≤ 10) : bits .or .i64 (m / 2) (2 ^ (t - 1).toNat) = nextM m t := by
  have hp := pow_le_1024 (t - 1).toNat (by omega)
  have hp1 := pow_pos_int (t - 1).toNat
  rw [or_i64 _ _ (by omega) (by omega)]
  unfold nextM
  rw [decide_eq_true ht.1, cond_true]
  have e : ((2 : Int) ^ (t - 1).toNat).toNat = 2 ^ (t - 1).toNat := by
    have : ((2 : Int) ^ (t - 1).toNat) = ((2 ^ (t - 1).toNat : Nat) : Int) := by simp
    rw [this, Int.toNat_natCast]
  rw [e]
theorem next_zero (m : Int) {t : Int} (ht : ¬ 0 < t) : nextM m t = m / 2 := by unfold nextM; rw [decide_eq_false ht]; rfl
theorem mem_throwsL {h m t : Int} (hh : 0 ≤ h) : t ∈ throwsL h m ↔ (0 ≤ t ∧ t ≤ h) ∧ canB h m t = true := by
  unfold throwsL throwsTo
  rw [List.mem_filter, List.mem_map]
  constructor
  · rintro ⟨⟨a, ha, rfl⟩, hc⟩
    have := List.mem_range.1 ha
    simp only [Int.ofNat_eq_natCast] at hc ⊢
    exact ⟨by omega, hc⟩
  · rintro ⟨⟨h0, h1⟩, hc⟩
    obtain ⟨a, rfl⟩ := Int.eq_ofNat_of_zero_le h0
    exact ⟨⟨a, List.mem_range.2 (by omega), rfl⟩, hc⟩
/-- the arcs of state i -/
def arcsAt (L : List Int) (h : Int) (i : Nat) : List (Int × Int × Int) := (throwsL h (L.getD i 0)).map fun t => ((i : Int), t, ((idx L (nextM (L.getD i 0) t) : Nat) : Int))
/-- the arcs of the first k states -/
def arcsTo (L : List Int) (h : Int) (k : Nat) : List (Int × Int × Int) := (List.range k).flatMap (arcsAt L h)
def arcsL (L : List Int) (h : Int) : List (Int × Int × Int) := arcsTo L h L.length
theorem arcsTo_succ (L : List Int) (h : Int) (k : Nat) : arcsTo L h (k + 1) = arcsTo L h k ++ arcsAt L h k := by simp [arcsTo, List.range_succ]
theorem arcsAt_len (L : List Int) (h : Int) (i : Nat) (hh : 0 ≤ h ∧ h ≤ 10) : (arcsAt L h i).length ≤ 11 := by
  unfold arcsAt
  rw [List.length_map]
  have := throwsTo_len h (L.getD i 0) (h + 1).toNat
  unfold throwsL; omega
theorem arcsTo_len (L : List Int) (h : Int) (k : Nat) (hh : 0 ≤ h ∧ h ≤ 10) : (arcsTo L h k).length ≤ 11 * k := by
  induction k with
  | zero => simp [arcsTo]
  | succ k ih => rw [arcsTo_succ, List.length_append]; have := arcsAt_len L h k hh; omega
theorem take_snoc {α : Type} (l : List α) (j : Nat) (hj : j < l.length) : l.take (j + 1) = l.take j ++ [l[j]] := by rw [List.take_add_one, List.getElem?_eq_getElem hj]; rfl
end Go.Proofs.Ytecdmnncfloagaa
