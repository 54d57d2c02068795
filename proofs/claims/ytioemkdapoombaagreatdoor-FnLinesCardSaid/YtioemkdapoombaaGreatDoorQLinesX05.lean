/- The law LinesX: what it rests on, part 5 of 46. -/
import Derived.Test.YtioemkdapoombaaGreatDoorQLinesX02
section
set_option linter.unusedVariables false
namespace Go.Proofs.YtioemkdapoombaaGreatDoor
/-- how many of the first k bits are 1 -/
def popTo (m : Int) (k : Nat) : Int := (((List.range k).filter fun t : Nat => bitB m (t : Int)).length : Int)
def popI (m : Int) : Int := popTo m 10
theorem popTo_yes {m : Int} {k : Nat} (h : bitB m k = true) : popTo m (k + 1) = popTo m k + 1 := by simp [popTo, List.range_succ, List.filter_append, h]
theorem popTo_no {m : Int} {k : Nat} (h : bitB m k = false) : popTo m (k + 1) = popTo m k := by simp [popTo, List.range_succ, List.filter_append, h]
theorem popTo_bd (m : Int) (k : Nat) : 0 ≤ popTo m k ∧ popTo m k ≤ k := by
  unfold popTo
  have := List.length_filter_le (fun t : Nat => bitB m (t : Int)) (List.range k)
  simp at this
  omega
theorem bit_high {m : Int} {t j : Nat} (h0 : 0 ≤ m) (hm : m < 2 ^ j) (ht : j ≤ t) : bitB m t = false := by
  have h1 : m / 2 ^ t = 0 := by
    apply Int.ediv_eq_zero_of_lt h0
    have h2 : (2 : Int) ^ j ≤ 2 ^ t := by
      have h3 : 2 ^ j ≤ 2 ^ t := Nat.pow_le_pow_right (by decide) ht
      have h4 : ((2 ^ j : Nat) : Int) ≤ ((2 ^ t : Nat) : Int) := by exact_mod_cast h3
      simpa using h4
    omega
  simp [bitB, h1]
theorem popTo_high {m : Int} {j : Nat} (h0 : 0 ≤ m) (hm : m < 2 ^ j) (d : Nat) : popTo m (j + d) = popTo m j := by
  induction d with
  | zero => rfl
  | succ d ih => rw [← Nat.add_assoc, popTo_no (bit_high h0 hm (by omega)), ih]
theorem popTo_all {m : Int} {j : Nat} (h0 : 0 ≤ m) (hm : m < 2 ^ j) (hj : j ≤ 10) : popTo m j = popI m := by
  have := popTo_high h0 hm (10 - j)
  rw [show j + (10 - j) = 10 by omega] at this
  exact this.symm
theorem bitB_mod (m : Int) (j : Nat) : bitB m j = decide ((m / 2 ^ j) % 2 = 1) := by simp [bitB]
theorem popTo_step (m q : Int) (j : Nat) (hq : q = m / 2 ^ j) : popTo m (j + 1) = popTo m j + q % 2 := by
  cases hb : bitB m j
  · rw [popTo_no hb]
    rw [bitB_mod, ← hq] at hb
    have := of_decide_eq_false hb
    omega
  · rw [popTo_yes hb]
    rw [bitB_mod, ← hq] at hb
    have := of_decide_eq_true hb
    omega
theorem div_step (m : Int) (j : Nat) : m / 2 ^ j / 2 = m / 2 ^ (j + 1) := by
  rw [Int.pow_succ, Int.ediv_ediv_of_nonneg (Int.pow_nonneg (by decide))]
/-- the masks of the states with so many props, the first k candidates -/
def maskTo (n : Int) (k : Nat) : List Int := ((List.range k).map Int.ofNat).filter fun m => popI m == n
def maskL (n h : Int) : List Int := maskTo n (2 ^ h.toNat)
theorem maskTo_yes {n : Int} {k : Nat} (h : (popI (k : Int) == n) = true) : maskTo n (k + 1) = maskTo n k ++ [(k : Int)] := by
  simp only [maskTo, List.range_succ, List.map_append, List.map_cons, List.map_nil, List.filter_append, Int.ofNat_eq_natCast, List.filter_cons, h, if_true, List.filter_nil]
theorem maskTo_no {n : Int} {k : Nat} (h : (popI (k : Int) == n) = false) : maskTo n (k + 1) = maskTo n k := by
  simp [maskTo, List.range_succ, List.map_append, List.filter_append, h]
theorem maskTo_len (n : Int) (k : Nat) : (maskTo n k).length ≤ k := by
  have := List.length_filter_le (fun m => popI m == n) ((List.range k).map Int.ofNat)
  simpa [maskTo] using this
theorem mem_maskL {n h m : Int} : m ∈ maskL n h ↔ (0 ≤ m ∧ m < 2 ^ h.toNat) ∧ popI m = n := by
  unfold maskL maskTo
  rw [List.mem_filter, List.mem_map]
  constructor
  · rintro ⟨⟨a, ha, rfl⟩, hp⟩
    have h2 : a < 2 ^ h.toNat := List.mem_range.1 ha
    have h3 : ((a : Nat) : Int) < ((2 ^ h.toNat : Nat) : Int) := by exact_mod_cast h2
    refine ⟨⟨Int.natCast_nonneg _, ?_⟩, by simpa using hp⟩
    simpa using h3
  · rintro ⟨⟨h0, h1⟩, hp⟩
    obtain ⟨a, rfl⟩ := Int.eq_ofNat_of_zero_le h0
    refine ⟨⟨a, List.mem_range.2 ?_, rfl⟩, by simpa using hp⟩
    have h3 : ((a : Nat) : Int) < ((2 ^ h.toNat : Nat) : Int) := by simpa using h1
    exact_mod_cast h3
theorem maskTo_sorted (n : Int) (k : Nat) : (maskTo n k).Pairwise (· < ·) := by
  unfold maskTo
  apply List.Pairwise.filter
  rw [List.pairwise_map]
  exact (List.pairwise_lt_range (n := k)).imp (fun h => by show (_ : Int) < _; simp only [Int.ofNat_eq_natCast]; omega)
theorem maskL_sorted (n h : Int) : (maskL n h).Pairwise (· < ·) := maskTo_sorted n _
theorem nodup_of_sorted {L : List Int} (h : L.Pairwise (· < ·)) : L.Nodup := h.imp (fun h => by omega)
theorem sorted_get {L : List Int} (h : L.Pairwise (· < ·)) (i j : Nat) (hi : i < L.length) (hj : j < L.length) : L[i] < L[j] ↔ i < j := by
  constructor
  · intro hl
    rcases Nat.lt_trichotomy i j with h1 | h1 | h1
    · exact h1
    · subst h1; omega
    · have := List.pairwise_iff_getElem.1 h j i hj hi h1; omega
  · intro hl; exact List.pairwise_iff_getElem.1 h i j hi hj hl
/-- the index of a mask -/
def idx (L : List Int) (m : Int) : Nat := L.idxOf m
theorem idx_lt {L : List Int} {m : Int} (h : m ∈ L) : idx L m < L.length := List.idxOf_lt_length_of_mem h
theorem idx_get {L : List Int} {m : Int} (h : m ∈ L) : L[idx L m]'(idx_lt h) = m := List.getElem_idxOf (idx_lt h)
theorem idx_at {L : List Int} (hn : L.Nodup) (i : Nat) (hi : i < L.length) : idx L L[i] = i := hn.idxOf_getElem i hi
/-- the mask one beat after a throw -/
def nextM (m t : Int) : Int := bif decide (0 < t) then (((m / 2).toNat ||| 2 ^ (t - 1).toNat : Nat) : Int) else m / 2
theorem bit_nat (a t : Nat) : bitB (a : Int) (t : Int) = a.testBit t := by
  have e : ((a : Int) / 2 ^ ((t : Int)).toNat % 2 = 1) ↔ (a / 2 ^ t % 2 = 1) := by
    rw [Int.toNat_natCast]
    constructor
    · intro h
      have : (((a / 2 ^ t % 2 : Nat)) : Int) = 1 := by simpa using h
      omega
    · intro h
      have : (((a / 2 ^ t % 2 : Nat)) : Int) = 1 := by omega
      simpa using this
  unfold bitB
  rw [Nat.testBit_eq_decide_div_mod_eq]
  simp only [e]
theorem bit_half (m : Int) (t : Nat) (h : 0 ≤ m) : bitB (m / 2) t = bitB m ((t + 1 : Nat) : Int) := by
  obtain ⟨a, rfl⟩ := Int.eq_ofNat_of_zero_le h
  have e : ((a : Int) / 2) = ((a / 2 : Nat) : Int) := by simp
  rw [e, bit_nat, bit_nat, Nat.testBit_succ]
theorem bit_or (a s t : Nat) : bitB ((a ||| 2 ^ s : Nat) : Int) t = (bitB (a : Int) t || decide (s = t)) := by
  rw [bit_nat, bit_nat, Nat.testBit_or, Nat.testBit_two_pow]
theorem popTo_half (m : Int) (h : 0 ≤ m) (k : Nat) : popTo m (k + 1) = (bif bitB m 0 then 1 else 0) + popTo (m / 2) k := by
  induction k with
  | zero =>
    cases hb : bitB m 0
    · rw [popTo_no (by simpa using hb)]; rfl
    · rw [popTo_yes (by simpa using hb)]; rfl
  | succ k ih =>
    have hh := bit_half m k h
    cases hb : bitB m ((k + 1 : Nat) : Int)
    · rw [popTo_no hb, ih, popTo_no (by rw [hh]; exact hb)]
    · rw [popTo_yes hb, ih, popTo_yes (by rw [hh]; exact hb)]; omega
theorem popTo_or (a s k : Nat) (hb : bitB (a : Int) s = false) : popTo ((a ||| 2 ^ s : Nat) : Int) k = popTo (a : Int) k + (if s < k then 1 else 0) := by
  induction k with
  | zero => simp [popTo]
  | succ k ih =>
    have ho := bit_or a s k
    by_cases hs : s = k
    · subst hs
      rw [hb] at ho
      rw [popTo_yes (by rw [ho]; simp), popTo_no hb, ih, if_neg (by omega), if_pos (by omega)]; omega
    · have hd : decide (s = k) = false := by simp [hs]
      rw [hd, Bool.or_false] at ho
      cases hk : bitB (a : Int) k
      · rw [popTo_no (by rw [ho]; exact hk), popTo_no hk, ih]
        have : (s < k + 1) ↔ (s < k) := by omega
        simp only [this]
      · rw [popTo_yes (by rw [ho]; exact hk), popTo_yes hk, ih]
        have : (s < k + 1) ↔ (s < k) := by omega
        simp only [this]
        omega
theorem canB_iff {h m t : Int} : canB h m t = true ↔ (t = 0 ∧ bitB m 0 = false) ∨ (t ≠ 0 ∧ (1 ≤ t ∧ t ≤ h) ∧ bitB m 0 = true ∧ bitB m t = false) := by
  unfold canB
  by_cases ht : t = 0
  · subst ht; simp
  · have e : (t == 0) = false := by simp [ht]
    rw [e, cond_false, Bool.and_eq_true, Bool.and_eq_true, inB_iff]
    simp [ht]
    constructor
    · rintro ⟨⟨h1, h2⟩, h3⟩; exact ⟨h1, h2, h3⟩
    · rintro ⟨h1, h2, h3⟩; exact ⟨⟨h1, h2⟩, h3⟩
theorem next_bd {h m t : Int} (hh : 1 ≤ h ∧ h ≤ 10) (hm : 0 ≤ m ∧ m < 2 ^ h.toNat) (ht : t ≤ h) : 0 ≤ nextM m t ∧ nextM m t < 2 ^ h.toNat := by
  obtain ⟨a, rfl⟩ := Int.eq_ofNat_of_zero_le hm.1
  have h2 : a < 2 ^ h.toNat := by
    have : ((a : Nat) : Int) < ((2 ^ h.toNat : Nat) : Int) := by simpa using hm.2
    exact_mod_cast this
  have e : ((a : Int) / 2) = ((a / 2 : Nat) : Int) := by simp
  unfold nextM
  cases hd : decide (0 < t)
  · rw [cond_false, e]
    refine ⟨Int.natCast_nonneg _, ?_⟩
    have h3 : ((a / 2 : Nat) : Int) < ((2 ^ h.toNat : Nat) : Int) := by exact_mod_cast (show a / 2 < 2 ^ h.toNat by omega)
    simpa using h3
  · have htp := of_decide_eq_true hd
    rw [cond_true, e, Int.toNat_natCast]
    refine ⟨Int.natCast_nonneg _, ?_⟩
    have h4 : a / 2 ||| 2 ^ (t - 1).toNat < 2 ^ h.toNat := Nat.or_lt_two_pow (by omega) (Nat.pow_lt_pow_right (by decide) (by omega))
    have h3 : ((a / 2 ||| 2 ^ (t - 1).toNat : Nat) : Int) < ((2 ^ h.toNat : Nat) : Int) := by exact_mod_cast h4
    simpa using h3
theorem next_pop {h m t : Int} (hh : 1 ≤ h ∧ h ≤ 10) (hm : 0 ≤ m ∧ m < 2 ^ h.toNat) (hc : canB h m t = true) : popI (nextM m t) = popI m := by
  have hp := pow_le_1024 h.toNat (by omega)
  have h10 : popTo m 11 = popI m := popTo_high (j := 10) hm.1 (by omega) 1
  have hh2 := popTo_half m hm.1 10
  rw [h10] at hh2
  rcases canB_iff.1 hc with ⟨rfl, hb⟩ | ⟨ht, ⟨h1, h2⟩, hb0, hbt⟩
  · rw [hb] at hh2
    have e : nextM m 0 = m / 2 := rfl
    rw [e, hh2]; simp [popI]
  · rw [hb0] at hh2
    obtain ⟨a, rfl⟩ := Int.eq_ofNat_of_zero_le hm.1
    have e : ((a : Int) / 2) = ((a / 2 : Nat) : Int) := by simp
    obtain ⟨s, rfl⟩ : ∃ s : Nat, t = ((s + 1 : Nat) : Int) := ⟨(t - 1).toNat, by omega⟩
    have hbs : bitB ((a / 2 : Nat) : Int) s = false := by
      have := bit_half (a : Int) s (Int.natCast_nonneg _)
      rw [e] at this
      rw [this]; exact hbt
    have en : nextM (a : Int) ((s + 1 : Nat) : Int) = ((a / 2 ||| 2 ^ s : Nat) : Int) := by
      unfold nextM
      rw [show decide (0 < ((s + 1 : Nat) : Int)) = true from decide_eq_true (by omega), cond_true, e, Int.toNat_natCast, show (((s + 1 : Nat) : Int) - 1).toNat = s by omega]
    rw [en, hh2, e]
    have h5 := popTo_or (a / 2) s 10 hbs
    rw [if_pos (by omega)] at h5
    unfold popI
    rw [h5]; simp; omega
theorem next_mem {n h m t : Int} (hh : 1 ≤ h ∧ h ≤ 10) (hm : m ∈ maskL n h) (hc : canB h m t = true) : nextM m t ∈ maskL n h := by
  obtain ⟨h1, h2⟩ := mem_maskL.1 hm
  have ht : t ≤ h := by
    rcases canB_iff.1 hc with ⟨rfl, _⟩ | ⟨_, ⟨_, h4⟩, _⟩ <;> omega
  exact mem_maskL.2 ⟨next_bd hh h1 ht, by rw [next_pop hh h1 hc]; exact h2⟩
theorem or_i64 (a b : Int) (ha : 0 ≤ a ∧ a < 2 ^ 62) (hb : 0 ≤ b ∧ b < 2 ^ 62) : bits .or .i64 a b = ((a.toNat ||| b.toNat : Nat) : Int) := by
  obtain ⟨x, rfl⟩ := Int.eq_ofNat_of_zero_le ha.1
  obtain ⟨y, rfl⟩ := Int.eq_ofNat_of_zero_le hb.1
  have := (bits_nat .i64 62 (by decide) wraps_i64 x y (by omega) (by omega)).2
  rw [this]; simp
theorem next_or {m t : Int} (hm : 0 ≤ m ∧ m < 1024) (ht : 0 < t ∧ t ≤ 10) : bits .or .i64 (m / 2) (2 ^ (t - 1).toNat) = nextM m t := by
  have hp := pow_le_1024 (t - 1).toNat (by omega)
  have hp1 := pow_pos_int (t - 1).toNat
  rw [or_i64 _ _ (by omega) (by omega)]
  unfold nextM
  rw [decide_eq_true ht.1, cond_true]
  have e : ((2 : Int) ^ (t - 1).toNat).toNat = 2 ^ (t - 1).toNat := by
    have : ((2 : Int) ^ (t - 1).toNat) = ((2 ^ (t - 1).toNat : Nat) : Int) := by simp
    rw [this, Int.toNat_natCast]
  rw [e]
theorem next_zero (m : Int) {t : Int} (ht : ¬ 0 < t) : nextM m t = m / 2 := by unfold nextM; rw [decide_eq_false ht]; rfl
theorem mem_throwsL {h m t : Int} (hh : 0 ≤ h) : t ∈ throwsL h m ↔ (0 ≤ t ∧ t ≤ h) ∧ canB h m t = true := by
  unfold throwsL throwsTo
  rw [List.mem_filter, List.mem_map]
  constructor
  · rintro ⟨⟨a, ha, rfl⟩, hc⟩
    have := List.mem_range.1 ha
    simp only [Int.ofNat_eq_natCast] at hc ⊢
    exact ⟨by omega, hc⟩
  · rintro ⟨⟨h0, h1⟩, hc⟩
    obtain ⟨a, rfl⟩ := Int.eq_ofNat_of_zero_le h0
    exact ⟨⟨a, List.mem_range.2 (by omega), rfl⟩, hc⟩
/-- the arcs of state i -/
def arcsAt (L : List Int) (h : Int) (i : Nat) : List (Int × Int × Int) := (throwsL h (L.getD i 0)).map fun t => ((i : Int), t, ((idx L (nextM (L.getD i 0) t) : Nat) : Int))
/-- the arcs of the first k states -/
def arcsTo (L : List Int) (h : Int) (k : Nat) : List (Int × Int × Int) := (List.range k).flatMap (arcsAt L h)
def arcsL (L : List Int) (h : Int) : List (Int × Int × Int) := arcsTo L h L.length
theorem arcsTo_succ (L : List Int) (h : Int) (k : Nat) : arcsTo L h (k + 1) = arcsTo L h k ++ arcsAt L h k := by simp [arcsTo, List.range_succ]
theorem arcsAt_len (L : List Int) (h : Int) (i : Nat) (hh : 0 ≤ h ∧ h ≤ 10) : (arcsAt L h i).length ≤ 11 := by
  unfold arcsAt
  rw [List.length_map]
  have := throwsTo_len h (L.getD i 0) (h + 1).toNat
  unfold throwsL; omega
theorem arcsTo_len (L : List Int) (h : Int) (k : Nat) (hh : 0 ≤ h ∧ h ≤ 10) : (arcsTo L h k).length ≤ 11 * k := by
  induction k with
  | zero => simp [arcsTo]
  | succ k ih => rw [arcsTo_succ, List.length_append]; have := arcsAt_len L h k hh; omega
theorem take_snoc {α : Type} (l : List α) (j : Nat) (hj : j < l.length) : l.take (j + 1) = l.take j ++ [l[j]] := by rw [List.take_add_one, List.getElem?_eq_getElem hj]; rfl
end Go.Proofs.YtioemkdapoombaaGreatDoor
end
section
set_option linter.unusedVariables false
namespace Go.Proofs.YtioemkdapoombaaGreatDoor
/-- b comes behind k steps from a -/
def Walk (adj : Int → List Int) : Nat → Int → Int → Prop
  | 0, a, b => a = b
  | k + 1, a, b => ∃ c, Walk adj k a c ∧ b ∈ adj c
def IsDist (adj : Int → List Int) (a b : Int) (k : Nat) : Prop := Walk adj k a b ∧ ∀ j, Walk adj j a b → k ≤ j
open Classical in
noncomputable def dist (adj : Int → List Int) (a b : Int) : Option Int := if h : ∃ k, IsDist adj a b k then some ((Classical.choose h : Nat) : Int) else none
theorem isDist_unique {adj : Int → List Int} {a b : Int} {k l : Nat} (h : IsDist adj a b k) (h' : IsDist adj a b l) : k = l := Nat.le_antisymm (h.2 l h'.1) (h'.2 k h.1)
theorem dist_of {adj : Int → List Int} {a b : Int} {k : Nat} (h : IsDist adj a b k) : dist adj a b = some (k : Int) := by
  have hx : ∃ k, IsDist adj a b k := ⟨k, h⟩
  unfold dist
  rw [dif_pos hx, isDist_unique (Classical.choose_spec hx) h]
theorem isDist_of_walk {adj : Int → List Int} {a b : Int} : ∀ {k : Nat}, Walk adj k a b → ∃ l, l ≤ k ∧ IsDist adj a b l := by
  intro k
  induction k using Nat.strongRecOn with
  | _ k ih =>
    intro h
    by_cases hx : ∃ j, j < k ∧ Walk adj j a b
    · obtain ⟨j, hj, hw⟩ := hx
      obtain ⟨l, hl, hd⟩ := ih j hj hw
      exact ⟨l, by omega, hd⟩
    · refine ⟨k, Nat.le_refl _, h, fun j hw => ?_⟩
      rcases Nat.lt_or_ge j k with h1 | h1
      · exact absurd ⟨j, h1, hw⟩ hx
      · exact h1
theorem dist_none {adj : Int → List Int} {a b : Int} (h : ∀ k, ¬ Walk adj k a b) : dist adj a b = none := by
  unfold dist
  rw [dif_neg]
  rintro ⟨k, hk⟩
  exact h k hk.1
theorem isDist_zero (adj : Int → List Int) (a : Int) : IsDist adj a a 0 := ⟨rfl, fun _ _ => Nat.zero_le _⟩
theorem walk_trans {adj : Int → List Int} {a b : Int} {k : Nat} (h : Walk adj k a b) : ∀ {l : Nat} {c : Int}, Walk adj l b c → Walk adj (k + l) a c := by
  intro l
  induction l with
  | zero => intro c hc; cases hc; exact h
  | succ l ih =>
    rintro c ⟨x, h1, h2⟩
    exact ⟨x, ih h1, h2⟩
/-- what a map of distances must be -/
theorem dist_eq {adj : Int → List Int} {s : Int} {f : Int → Option Int} (h0 : f s = some 0) (hw : ∀ y d, f y = some d → ∃ k : Nat, d = k ∧ Walk adj k s y)
    (hc : ∀ x d, f x = some d → ∀ y ∈ adj x, ∃ d', f y = some d' ∧ d' ≤ d + 1) : f = dist adj s := by
  have hle : ∀ k y, Walk adj k s y → ∃ d, f y = some d ∧ d ≤ k := by
    intro k
    induction k with
    | zero => intro y hy; cases hy; exact ⟨0, h0, by omega⟩
    | succ k ih =>
      rintro y ⟨x, h1, h2⟩
      obtain ⟨d, hd, hdk⟩ := ih x h1
      obtain ⟨d', hd', hle'⟩ := hc x d hd y h2
      exact ⟨d', hd', by omega⟩
  funext y
  cases hf : f y with
  | none =>
    symm
    exact dist_none fun k hk => by
      obtain ⟨d, hd, _⟩ := hle k y hk
      rw [hf] at hd; cases hd
  | some d =>
    obtain ⟨k, rfl, hk⟩ := hw y d hf
    symm
    refine dist_of ⟨hk, fun j hj => ?_⟩
    obtain ⟨d, hd, hdj⟩ := hle j y hj
    rw [hf] at hd
    cases hd
    omega
/-- the search: O the order in which nodes were found, k the number of the node whose neighbours are looked at, A those that were -/
structure Bfs (adj : Int → List Int) (s : Int) (O : List Int) (f : Int → Option Int) (k : Nat) (A : List Int) : Prop where
  nodup : O.Nodup
  dom : ∀ y, y ∈ O ↔ (f y).isSome = true
  start : f s = some 0
  walk : ∀ y d, f y = some d → ∃ k : Nat, d = k ∧ Walk adj k s y
  sorted : ∀ i j, i ≤ j → j < O.length → (f (O.getD i 0)).getD 0 ≤ (f (O.getD j 0)).getD 0
  top : k < O.length → ∀ j, j < O.length → (f (O.getD j 0)).getD 0 ≤ (f (O.getD k 0)).getD 0 + 1
  bound : ∀ i, i < O.length → 0 ≤ (f (O.getD i 0)).getD 0 ∧ (f (O.getD i 0)).getD 0 ≤ i
  done : ∀ i, i < k → ∀ y ∈ adj (O.getD i 0), ∃ d, f y = some d ∧ d ≤ (f (O.getD i 0)).getD 0 + 1
  part : ∀ y ∈ A, ∃ d, f y = some d ∧ d ≤ (f (O.getD k 0)).getD 0 + 1
theorem nodup_len : ∀ {O L : List Int}, O.Nodup → (∀ y ∈ O, y ∈ L) → O.length ≤ L.length := by
  intro O
  induction O with
  | nil => intro L _ _; simp
  | cons x O ih =>
    intro L hn hs
    have hx : x ∈ L := hs x (List.mem_cons_self ..)
    have hn' := List.nodup_cons.1 hn
    have := ih (L := L.erase x) hn'.2 (fun y hy => (List.mem_erase_of_ne (fun e : y = x => hn'.1 (e ▸ hy))).2 (hs y (List.mem_cons_of_mem _ hy)))
    rw [List.length_erase_of_mem hx] at this
    have hp : 0 < L.length := List.length_pos_of_mem hx
    simp only [List.length_cons]
    omega
theorem getD_mem' {L : List Int} {k : Nat} (hk : k < L.length) : L.getD k 0 ∈ L := by rw [List.getD_eq_getElem?_getD, List.getElem?_eq_getElem hk]; exact List.getElem_mem hk
def fput' (f : Int → Option Int) (k c : Int) : Int → Option Int := fun x => if x = k then some c else f x
theorem Bfs.first (adj : Int → List Int) (s : Int) : Bfs adj s [s] (fput' (fun _ => none) s 0) 0 [] where
  nodup := by simp
  dom := fun y => by unfold fput'; by_cases h : y = s <;> simp [h]
  start := by simp [fput']
  walk := fun y d h => by
    unfold fput' at h
    by_cases hy : y = s
    · rw [if_pos hy] at h; cases h; exact ⟨0, rfl, hy.symm⟩
    · rw [if_neg hy] at h; cases h
  sorted := fun i j h1 h2 => by
    have hj : j = 0 := by simp at h2; omega
    subst hj
    have hi : i = 0 := by omega
    subst hi
    exact Int.le_refl _
  top := fun _ j h2 => by
    have hj : j = 0 := by simp at h2; omega
    subst hj
    omega
  bound := fun i hi => by
    have h0 : i = 0 := by simp at hi; omega
    subst h0
    simp [fput']
  done := fun i hi => by omega
  part := fun y hy => by cases hy
section
variable {adj : Int → List Int} {s : Int} {O : List Int} {f : Int → Option Int} {k : Nat} {A : List Int}
theorem Bfs.mem (h : Bfs adj s O f k A) {y : Int} (hy : y ∈ O) : f y = some ((f y).getD 0) := by
  have := (h.dom y).1 hy
  cases hf : f y with
  | none => rw [hf] at this; cases this
  | some d => rfl
theorem Bfs.mem_le (h : Bfs adj s O f k A) (hk : k < O.length) {y : Int} (hy : y ∈ O) : (f y).getD 0 ≤ (f (O.getD k 0)).getD 0 + 1 := by
  obtain ⟨j, hj, rfl⟩ := List.getElem_of_mem hy
  have := h.top hk j hj
  rwa [show O.getD j 0 = O[j] by simp [List.getD, hj]] at this
/-- a neighbour that was found before -/
theorem Bfs.old (h : Bfs adj s O f k A) (hk : k < O.length) {y : Int} (hy : (f y).isSome = true) : Bfs adj s O f k (A ++ [y]) :=
  { h with
    part := fun z hz => by
      rcases List.mem_append.1 hz with hz | hz
      · exact h.part z hz
      · obtain rfl : z = y := by simpa using hz
        have hm := (h.dom z).2 hy
        exact ⟨_, h.mem hm, h.mem_le hk hm⟩ }
/-- a neighbour that is new -/
theorem Bfs.new (h : Bfs adj s O f k A) (hk : k < O.length) {y : Int} (hy : (f y).isSome = false) (ha : y ∈ adj (O.getD k 0)) :
    Bfs adj s (O ++ [y]) (fput' f y ((f (O.getD k 0)).getD 0 + 1)) k (A ++ [y]) := by
  have hyO : y ∉ O := fun hm => by have := (h.dom y).1 hm; rw [hy] at this; cases this
  have hne : ∀ z ∈ O, z ≠ y := fun z hz e => hyO (e ▸ hz)
  have hput : ∀ z ∈ O, fput' f y ((f (O.getD k 0)).getD 0 + 1) z = f z := fun z hz => by unfold fput'; rw [if_neg (hne z hz)]
  have hnew : fput' f y ((f (O.getD k 0)).getD 0 + 1) y = some ((f (O.getD k 0)).getD 0 + 1) := by unfold fput'; rw [if_pos rfl]
  have hat : ∀ i, i < O.length → (O ++ [y]).getD i 0 = O.getD i 0 := fun i hi => by rw [List.getD_eq_getElem?_getD, List.getD_eq_getElem?_getD, List.getElem?_append_left hi]
  have hlast : (O ++ [y]).getD O.length 0 = y := by simp [List.getD]
  have hOk := getD_mem' hk
  have hkb := h.bound k hk
  have hsO : s ∈ O := (h.dom s).2 (by rw [h.start]; rfl)
  have hl : (O ++ [y]).length = O.length + 1 := by simp
  constructor
  · rw [List.nodup_append]
    exact ⟨h.nodup, by simp, fun a ha b hb => by
      have e : b = y := by simpa using hb
      rw [e]; exact hne a ha⟩
  · intro z
    by_cases hz : z = y
    · subst hz
      rw [hnew]; simp
    · unfold fput'
      rw [if_neg hz, List.mem_append, h.dom z]
      simp [hz]
  · rw [hput s hsO]; exact h.start
  · intro z d hd
    by_cases hz : z = y
    · subst hz
      rw [hnew] at hd
      cases hd
      obtain ⟨l, hl, hw⟩ := h.walk (O.getD k 0) _ (h.mem hOk)
      exact ⟨l + 1, by rw [hl]; simp, _, hw, ha⟩
    · unfold fput' at hd
      rw [if_neg hz] at hd
      exact h.walk z d hd
  · intro i j hij hj
    by_cases hjl : j < O.length
    · rw [hat i (by omega), hat j hjl, hput _ (getD_mem' (by omega)), hput _ (getD_mem' hjl)]
      exact h.sorted i j hij hjl
    · have e : j = O.length := by omega
      subst e
      rw [hlast, hnew]
      by_cases hil : i < O.length
      · rw [hat i hil, hput _ (getD_mem' hil)]
        exact h.top hk i hil
      · have e : i = O.length := by omega
        subst e
        rw [hlast, hnew]
        exact Int.le_refl _
  · intro _ j hj
    rw [hat k hk, hput _ hOk]
    by_cases hjl : j < O.length
    · rw [hat j hjl, hput _ (getD_mem' hjl)]
      exact h.top hk j hjl
    · have e : j = O.length := by omega
      subst e
      rw [hlast, hnew]
      exact Int.le_refl _
  · intro i hi
    by_cases hil : i < O.length
    · rw [hat i hil, hput _ (getD_mem' hil)]
      exact h.bound i hil
    · have e : i = O.length := by omega
      subst e
      rw [hlast, hnew]
      show 0 ≤ (f (O.getD k 0)).getD 0 + 1 ∧ (f (O.getD k 0)).getD 0 + 1 ≤ (O.length : Int)
      omega
  · intro i hi z hz
    rw [hat i (by omega)] at hz ⊢
    rw [hput _ (getD_mem' (by omega))]
    obtain ⟨d, hd, hle⟩ := h.done i hi z hz
    exact ⟨d, by rw [hput z ((h.dom z).2 (by rw [hd]; rfl))]; exact hd, hle⟩
  · intro z hz
    rw [hat k hk, hput _ hOk]
    rcases List.mem_append.1 hz with hz | hz
    · obtain ⟨d, hd, hle⟩ := h.part z hz
      exact ⟨d, by rw [hput z ((h.dom z).2 (by rw [hd]; rfl))]; exact hd, hle⟩
    · obtain rfl : z = y := by simpa using hz
      exact ⟨_, hnew, Int.le_refl _⟩
/-- all neighbours have been looked at -/
theorem Bfs.next (h : Bfs adj s O f k A) (hk : k < O.length) (hA : ∀ y ∈ adj (O.getD k 0), y ∈ A) : Bfs adj s O f (k + 1) [] :=
  { h with
    top := fun hk1 j hj => by
      have h1 := h.top hk j hj
      have h2 := h.sorted k (k + 1) (by omega) hk1
      omega
    done := fun i hi y hy => by
      by_cases e : i = k
      · subst e; exact h.part y (hA y hy)
      · exact h.done i (by omega) y hy
    part := fun y hy => by cases hy }
theorem Bfs.all (h : Bfs adj s O f k A) (hk : ¬ k < O.length) : f = dist adj s :=
  dist_eq h.start h.walk fun x d hd y hy => by
    have hx : x ∈ O := (h.dom x).2 (by rw [hd]; rfl)
    obtain ⟨i, hi, rfl⟩ := List.getElem_of_mem hx
    have e : O.getD i 0 = O[i] := by simp [List.getD, hi]
    obtain ⟨d', h1, h2⟩ := h.done i (by omega) y (by rw [e]; exact hy)
    rw [e, hd] at h2
    exact ⟨d', h1, h2⟩
/-- the nodes that were found lie in a list of nodes that is closed -/
theorem Bfs.len (h : Bfs adj s O f k A) {L : List Int} (hO : ∀ y ∈ O, y ∈ L) : O.length ≤ L.length := by
  exact nodup_len h.nodup hO
end
end Go.Proofs.YtioemkdapoombaaGreatDoor
end
section
set_option linter.unusedVariables false
namespace Go.Proofs.YtioemkdapoombaaGreatDoor
def adjM (h : Int) (x : Int) : List Int := (throwsL h x).map (nextM x)
theorem mem_adjM {h x y : Int} (hh : 0 ≤ h) : y ∈ adjM h x ↔ ∃ t, canB h x t = true ∧ (0 ≤ t ∧ t ≤ h) ∧ nextM x t = y := by
  unfold adjM
  rw [List.mem_map]
  constructor
  · rintro ⟨t, ht, rfl⟩
    have := (mem_throwsL hh).1 ht
    exact ⟨t, this.2, this.1, rfl⟩
  · rintro ⟨t, hc, hb, rfl⟩
    exact ⟨t, (mem_throwsL hh).2 ⟨hb, hc⟩, rfl⟩
theorem adjM_mem {n h x y : Int} (hh : 1 ≤ h ∧ h ≤ 10) (hx : x ∈ maskL n h) (hy : y ∈ adjM h x) : y ∈ maskL n h := by
  obtain ⟨t, hc, _, rfl⟩ := (mem_adjM (by omega)).1 hy
  exact next_mem hh hx hc
def groundM (m : Int) : Int := 2 ^ (popI m).toNat - 1
def okDown (h m : Int) : Bool := m == groundM m || (canB h m ((throwsL h m).headD 0) && decide (nextM m ((throwsL h m).headD 0) < m))
def okUp (h m : Int) : Bool := m == groundM m || (canB h (2 * (m - 2 ^ Nat.log2 m.toNat) + 1) ((Nat.log2 m.toNat : Int) + 1) && nextM (2 * (m - 2 ^ Nat.log2 m.toNat) + 1) ((Nat.log2 m.toNat : Int) + 1) == m && decide (2 * (m - 2 ^ Nat.log2 m.toNat) + 1 < m) && decide (0 ≤ 2 * (m - 2 ^ Nat.log2 m.toNat) + 1))
theorem checked : ((List.range 10).all fun h => (List.range (2 ^ (h + 1))).all fun m => okDown ((h : Int) + 1) (m : Int) && okUp ((h : Int) + 1) (m : Int)) = true := by decide +kernel
theorem ok_at {h m : Int} (hh : 1 ≤ h ∧ h ≤ 10) (hm : 0 ≤ m ∧ m < 2 ^ h.toNat) : okDown h m = true ∧ okUp h m = true := by
  obtain ⟨a, ha⟩ : ∃ a : Nat, h = (a : Int) + 1 := ⟨(h - 1).toNat, by omega⟩
  obtain ⟨b, rfl⟩ := Int.eq_ofNat_of_zero_le hm.1
  subst ha
  have hb : b < 2 ^ (a + 1) := by
    have h1 : ((a : Int) + 1).toNat = a + 1 := by omega
    have h2 := hm.2
    rw [h1] at h2
    have h3 : ((b : Nat) : Int) < ((2 ^ (a + 1) : Nat) : Int) := by simpa using h2
    exact_mod_cast h3
  have h1 := checked
  rw [List.all_eq_true] at h1
  have h2 := h1 a (List.mem_range.2 (by omega))
  rw [List.all_eq_true] at h2
  have h3 := h2 b (List.mem_range.2 hb)
  rw [Bool.and_eq_true] at h3
  exact h3
theorem can_le {h m t : Int} (hh : 1 ≤ h) (hc : canB h m t = true) : 0 ≤ t ∧ t ≤ h := by
  rcases canB_iff.1 hc with ⟨rfl, _⟩ | ⟨_, ⟨h1, h2⟩, _⟩ <;> omega
theorem down {h : Int} (hh : 1 ≤ h ∧ h ≤ 10) : ∀ (k : Nat) (m : Int), m.toNat = k → 0 ≤ m ∧ m < 2 ^ h.toNat → ∃ l, Walk (adjM h) l m (groundM m) := by
  intro k
  induction k using Nat.strongRecOn with
  | _ k ih =>
    intro m hk hm
    have := (ok_at hh hm).1
    unfold okDown at this
    rw [Bool.or_eq_true] at this
    rcases this with h1 | h1
    · exact ⟨0, beq_iff_eq.1 h1⟩
    · rw [Bool.and_eq_true] at h1
      obtain ⟨hc, hl⟩ := h1
      have hl := of_decide_eq_true hl
      have htb := can_le hh.1 hc
      have hb := next_bd hh hm htb.2
      obtain ⟨l, hw⟩ := ih (nextM m ((throwsL h m).headD 0)).toNat (by omega) _ rfl hb
      have hg : groundM (nextM m ((throwsL h m).headD 0)) = groundM m := by unfold groundM; rw [next_pop hh hm hc]
      rw [hg] at hw
      have h1 : Walk (adjM h) 1 m (nextM m ((throwsL h m).headD 0)) := ⟨m, rfl, (mem_adjM (by omega)).2 ⟨_, hc, htb, rfl⟩⟩
      exact ⟨1 + l, walk_trans h1 hw⟩
theorem up {h : Int} (hh : 1 ≤ h ∧ h ≤ 10) : ∀ (k : Nat) (m : Int), m.toNat = k → 0 ≤ m ∧ m < 2 ^ h.toNat → ∃ l, Walk (adjM h) l (groundM m) m := by
  intro k
  induction k using Nat.strongRecOn with
  | _ k ih =>
    intro m hk hm
    have := (ok_at hh hm).2
    unfold okUp at this
    rw [Bool.or_eq_true] at this
    rcases this with h1 | h1
    · exact ⟨0, by have := (beq_iff_eq.1 h1).symm; exact this⟩
    · generalize 2 * (m - 2 ^ Nat.log2 m.toNat) + 1 = p at h1
      generalize (Nat.log2 m.toNat : Int) + 1 = t at h1
      rw [Bool.and_eq_true, Bool.and_eq_true, Bool.and_eq_true] at h1
      obtain ⟨⟨⟨hc, he⟩, hl⟩, h0⟩ := h1
      have hl := of_decide_eq_true hl
      have h0 := of_decide_eq_true h0
      have he : nextM p t = m := by simpa using he
      have hp : 0 ≤ p ∧ p < 2 ^ h.toNat := by omega
      obtain ⟨l, hw⟩ := ih p.toNat (by omega) _ rfl hp
      have hg : groundM p = groundM m := by
        have := next_pop hh hp hc
        unfold groundM; rw [← this, he]
      rw [hg] at hw
      exact ⟨l + 1, p, hw, (mem_adjM (by omega)).2 ⟨t, hc, can_le hh.1 hc, he⟩⟩
theorem linked_walk {n h a b : Int} (hh : 1 ≤ h ∧ h ≤ 10) (ha : a ∈ maskL n h) (hb : b ∈ maskL n h) : ∃ l, Walk (adjM h) l a b := by
  have h1 := mem_maskL.1 ha
  have h2 := mem_maskL.1 hb
  obtain ⟨l1, w1⟩ := down hh _ a rfl h1.1
  obtain ⟨l2, w2⟩ := up hh _ b rfl h2.1
  have hg : groundM a = groundM b := by unfold groundM; rw [h1.2, h2.2]
  rw [hg] at w1
  exact ⟨l1 + l2, walk_trans w1 w2⟩
/-- the distance of two states of one graph, by their masks -/
noncomputable def farM (h a b : Int) : Int := (dist (adjM h) a b).getD 0
theorem farM_eq {n h a b : Int} (hh : 1 ≤ h ∧ h ≤ 10) (ha : a ∈ maskL n h) (hb : b ∈ maskL n h) : dist (adjM h) a b = some (farM h a b) ∧ ∃ k : Nat, farM h a b = k ∧ IsDist (adjM h) a b k := by
  obtain ⟨l, hw⟩ := linked_walk hh ha hb
  obtain ⟨k, _, hd⟩ := isDist_of_walk hw
  have he := dist_of hd
  unfold farM
  rw [he]
  exact ⟨rfl, k, rfl, hd⟩
/-- a walk stays in a closed list of nodes -/
theorem walk_mem {adj : Int → List Int} {L : List Int} (hc : ∀ x ∈ L, ∀ y ∈ adj x, y ∈ L) {a : Int} (ha : a ∈ L) : ∀ {k : Nat} {b : Int}, Walk adj k a b → b ∈ L := by
  intro k
  induction k with
  | zero => intro b hb; cases hb; exact ha
  | succ k ih =>
    rintro b ⟨c, h1, h2⟩
    exact hc c (ih h1) b h2
/-- the nodes that follow node i by some arcs -/
def adjX (X : List (Int × Int × Int)) (i : Int) : List Int := (X.filter fun a => a.1 == i).map (·.2.2)
def idxI (L : List Int) (x : Int) : Int := ((idx L x : Nat) : Int)
theorem idxI_inj {L : List Int} {x y : Int} (hx : x ∈ L) (hy : y ∈ L) (h : idxI L x = idxI L y) : x = y := by
  unfold idxI at h
  have h1 : idx L x = idx L y := by omega
  have h2 := idx_get hx
  have h3 := idx_get hy
  rw [← h2, ← h3]
  simp only [h1]
theorem dist_path {adj : Int → List Int} {L : List Int} (hc : ∀ x ∈ L, ∀ y ∈ adj x, y ∈ L) {a : Int} (ha : a ∈ L) :
    ∀ (k : Nat) (b : Int), IsDist adj a b k → ∃ O : List Int, O.length = k + 1 ∧ O.Nodup ∧ ∀ y ∈ O, y ∈ L ∧ ∃ j, j ≤ k ∧ IsDist adj a y j := by
  intro k
  induction k with
  | zero =>
    intro b hb
    have e : a = b := hb.1
    subst e
    exact ⟨[a], rfl, by simp, fun y hy => by obtain rfl : y = a := by simpa using hy
                                             exact ⟨ha, 0, Nat.le_refl _, hb⟩⟩
  | succ k ih =>
    intro b hb
    obtain ⟨c, h1, h2⟩ := hb.1
    have hdc : IsDist adj a c k := ⟨h1, fun j hj => by have := hb.2 (j + 1) ⟨c, hj, h2⟩; omega⟩
    obtain ⟨O, hl, hn, hO⟩ := ih c hdc
    refine ⟨b :: O, by simp [hl], List.nodup_cons.2 ⟨fun hbO => ?_, hn⟩, fun y hy => ?_⟩
    · obtain ⟨_, j, hj, hd⟩ := hO b hbO
      have := isDist_unique hb hd
      omega
    · rcases List.mem_cons.1 hy with rfl | hy
      · exact ⟨walk_mem hc ha hb.1, k + 1, Nat.le_refl _, hb⟩
      · obtain ⟨h3, j, hj, hd⟩ := hO y hy
        exact ⟨h3, j, by omega, hd⟩
theorem dist_lt {adj : Int → List Int} {L : List Int} (hc : ∀ x ∈ L, ∀ y ∈ adj x, y ∈ L) {a b : Int} (ha : a ∈ L) {k : Nat} (hd : IsDist adj a b k) : k < L.length := by
  obtain ⟨O, hl, hn, hO⟩ := dist_path hc ha k b hd
  have := nodup_len hn (fun y hy => (hO y hy).1)
  omega
theorem farM_bd {n h a b : Int} (hh : 1 ≤ h ∧ h ≤ 10) (ha : a ∈ maskL n h) (hb : b ∈ maskL n h) : 0 ≤ farM h a b ∧ farM h a b < (maskL n h).length := by
  obtain ⟨_, k, hk, hd⟩ := farM_eq hh ha hb
  have := dist_lt (L := maskL n h) (fun x hx y hy => adjM_mem hh hx hy) ha hd
  omega
end Go.Proofs.YtioemkdapoombaaGreatDoor
end
section
set_option linter.unusedVariables false
namespace Go.Proofs.YtioemkdapoombaaGreatDoor
/-- the arcs of the state at index i, by masks -/
def arcsMAt (L : List Int) (h : Int) (i : Nat) : List (Int × Int) := (throwsL h (L.getD i 0)).map fun t => (L.getD i 0, nextM (L.getD i 0) t)
def arcsMTo (L : List Int) (h : Int) (k : Nat) : List (Int × Int) := (List.range k).flatMap (arcsMAt L h)
def grp (A : List (Int × Int)) (x : Int) : List Int := (A.filter fun a => a.2 == x).map (·.1)
theorem mem_grp {A : List (Int × Int)} {x z : Int} : x ∈ grp A z ↔ (x, z) ∈ A := by
  unfold grp
  rw [List.mem_map]
  constructor
  · rintro ⟨⟨a, b⟩, ha, rfl⟩
    obtain ⟨h1, h2⟩ := List.mem_filter.1 ha
    have : b = z := by simpa using h2
    subst this; exact h1
  · intro h
    exact ⟨(x, z), List.mem_filter.2 ⟨h, by simp⟩, rfl⟩
def adjG (L : List Int) (h : Int) : Int → List Int := grp (arcsMTo L h L.length)
theorem mem_adjG {L : List Int} {h x z : Int} : x ∈ adjG L h z ↔ x ∈ L ∧ z ∈ adjM h x := by
  unfold adjG
  rw [mem_grp]
  unfold arcsMTo
  rw [List.mem_flatMap]
  constructor
  · rintro ⟨i, hi, ha⟩
    have hi := List.mem_range.1 hi
    obtain ⟨t, ht, he⟩ := List.mem_map.1 ha
    cases he
    exact ⟨getD_mem' hi, List.mem_map_of_mem ht⟩
  · rintro ⟨hx, hz⟩
    obtain ⟨i, hi, rfl⟩ := List.getElem_of_mem hx
    obtain ⟨t, ht, rfl⟩ := List.mem_map.1 hz
    have e : L.getD i 0 = L[i] := by simp [List.getD, hi]
    refine ⟨i, List.mem_range.2 hi, List.mem_map.2 ⟨t, by rw [e]; exact ht, by rw [e]⟩⟩
theorem walk_cons {adj : Int → List Int} {a b : Int} (hab : b ∈ adj a) : ∀ {k : Nat} {c : Int}, Walk adj k b c → Walk adj (k + 1) a c := by
  intro k
  induction k with
  | zero => intro c hc; cases hc; exact ⟨a, rfl, hab⟩
  | succ k ih =>
    rintro c ⟨x, h1, h2⟩
    exact ⟨x, ih h1, h2⟩
theorem walk_rev {n h s : Int} (hh : 1 ≤ h ∧ h ≤ 10) (hs : s ∈ maskL n h) : ∀ {k : Nat} {y : Int}, y ∈ maskL n h → (Walk (adjG (maskL n h) h) k s y ↔ Walk (adjM h) k y s) := by
  intro k
  induction k with
  | zero => intro y _; exact ⟨fun h => h.symm, fun h => h.symm⟩
  | succ k ih =>
    intro y hy
    constructor
    · rintro ⟨c, h1, h2⟩
      obtain ⟨_, hc2⟩ := mem_adjG.1 h2
      have hcm := adjM_mem hh hy hc2
      exact walk_cons hc2 ((ih hcm).1 h1)
    · intro hw
      obtain ⟨c, hc, hw'⟩ : ∃ c, c ∈ adjM h y ∧ Walk (adjM h) k c s := by
        clear ih
        induction k generalizing s with
        | zero => obtain ⟨x, h1, h2⟩ := hw; cases h1; exact ⟨s, h2, rfl⟩
        | succ k ih2 =>
          obtain ⟨x, h1, h2⟩ := hw
          have hx : x ∈ maskL n h := walk_mem (fun a ha b hb => adjM_mem hh ha hb) hy h1
          obtain ⟨c, hc, hw2⟩ := ih2 hx h1
          exact ⟨c, hc, x, hw2, h2⟩
      have hcm := adjM_mem hh hy hc
      exact ⟨c, (ih hcm).2 hw', mem_adjG.2 ⟨hy, hc⟩⟩
end Go.Proofs.YtioemkdapoombaaGreatDoor
end
section
set_option linter.unusedVariables false
namespace Go.Proofs.YtioemkdapoombaaGreatDoor
theorem walk_uncons {adj : Int → List Int} : ∀ {k : Nat} {a b : Int}, Walk adj (k + 1) a b → ∃ c, c ∈ adj a ∧ Walk adj k c b := by
  intro k
  induction k with
  | zero =>
    rintro a b ⟨c, h1, h2⟩
    cases h1
    exact ⟨b, h2, rfl⟩
  | succ k ih =>
    rintro a b ⟨c, h1, h2⟩
    obtain ⟨d, h3, h4⟩ := ih h1
    exact ⟨d, h3, c, h4, h2⟩
section
variable {n h a b : Int}
theorem farM_self (h a : Int) : farM h a a = 0 := by
  unfold farM
  rw [dist_of (isDist_zero _ _)]
  rfl
/-- one throw shortens the way by one at most -/
theorem farM_arc (hh : 1 ≤ h ∧ h ≤ 10) (ha : a ∈ maskL n h) (hb : b ∈ maskL n h) {c : Int} (hc : c ∈ adjM h a) : farM h a b ≤ farM h c b + 1 := by
  have hcm := adjM_mem hh ha hc
  obtain ⟨_, k, hk, hd⟩ := farM_eq hh ha hb
  obtain ⟨_, l, hl, hd'⟩ := farM_eq hh hcm hb
  have := hd.2 (l + 1) (walk_cons hc hd'.1)
  omega
theorem farM_step (hh : 1 ≤ h ∧ h ≤ 10) (ha : a ∈ maskL n h) (hb : b ∈ maskL n h) (hne : a ≠ b) : ∃ t, t ∈ throwsL h a ∧ farM h (nextM a t) b = farM h a b - 1 := by
  obtain ⟨_, k, hk, hd⟩ := farM_eq hh ha hb
  cases k with
  | zero => exact absurd hd.1 hne
  | succ k =>
    obtain ⟨c, hc, hw⟩ := walk_uncons hd.1
    have hcm := adjM_mem hh ha hc
    have h1 := farM_arc hh ha hb hc
    obtain ⟨_, l, hl, hd'⟩ := farM_eq hh hcm hb
    have h2 := hd'.2 k hw
    obtain ⟨t, ht, rfl⟩ := List.mem_map.1 hc
    exact ⟨t, ht, by omega⟩
/-- the least throw that leads on -/
noncomputable def pickT (h b a : Int) : Int := ((throwsL h a).find? fun t => farM h (nextM a t) b == farM h a b - 1).getD 0
theorem pick_some (hh : 1 ≤ h ∧ h ≤ 10) (ha : a ∈ maskL n h) (hb : b ∈ maskL n h) (hne : a ≠ b) : pickT h b a ∈ throwsL h a ∧ farM h (nextM a (pickT h b a)) b = farM h a b - 1 := by
  obtain ⟨t, ht, he⟩ := farM_step hh ha hb hne
  unfold pickT
  cases hf : (throwsL h a).find? fun t => farM h (nextM a t) b == farM h a b - 1 with
  | none =>
    have := List.find?_eq_none.1 hf t ht
    rw [he] at this
    simp at this
  | some s =>
    have h1 := List.find?_some hf
    have h2 := List.mem_of_find?_eq_some hf
    exact ⟨h2, by simpa using h1⟩
theorem pick_at {T : List Int} {p : Int → Bool} {j : Nat} (hj : j < T.length) (hno : ∀ t ∈ T.take j, p t = false) (hyes : p (T.getD j 0) = true) : T.find? p = some (T.getD j 0) := by
  have e : T.getD j 0 = T[j] := by simp [List.getD, hj]
  rw [e] at hyes ⊢
  have hT : T = T.take j ++ T[j] :: T.drop (j + 1) := by rw [List.getElem_cons_drop, List.take_append_drop]
  conv => lhs; rw [hT]
  rw [List.find?_append, List.find?_eq_none.2 (fun x hx => by rw [hno x hx]; simp), List.find?_cons_of_pos hyes]
  rfl
theorem pick_not (hh : 1 ≤ h ∧ h ≤ 10) (ha : a ∈ maskL n h) (hb : b ∈ maskL n h) (hne : a ≠ b) (hno : ∀ t ∈ throwsL h a, (farM h (nextM a t) b == farM h a b - 1) = false) : False := by
  obtain ⟨t, ht, he⟩ := farM_step hh ha hb hne
  have := hno t ht
  rw [he] at this
  simp at this
noncomputable def shortF (h b : Int) : Nat → Int → List Int
  | 0, _ => []
  | k + 1, a => pickT h b a :: shortF h b k (nextM a (pickT h b a))
noncomputable def shortL (h a b : Int) : List Int := shortF h b (farM h a b).toNat a
theorem shortF_len (h b : Int) : ∀ (k : Nat) (a : Int), (shortF h b k a).length = k := by
  intro k
  induction k with
  | zero => intro a; rfl
  | succ k ih => intro a; simp [shortF, ih]
theorem shortL_len (h a b : Int) : (shortL h a b).length = (farM h a b).toNat := shortF_len _ _ _ _
theorem shortL_self (h a : Int) : shortL h a a = [] := by
  unfold shortL
  rw [farM_self]
  rfl
theorem shortL_step (hh : 1 ≤ h ∧ h ≤ 10) (ha : a ∈ maskL n h) (hb : b ∈ maskL n h) (hne : a ≠ b) : shortL h a b = pickT h b a :: shortL h (nextM a (pickT h b a)) b := by
  obtain ⟨_, k, hk, hd⟩ := farM_eq hh ha hb
  cases k with
  | zero => exact absurd hd.1 hne
  | succ k =>
    have h1 := (pick_some hh ha hb hne).2
    unfold shortL
    rw [h1, hk]
    have e1 : ((k + 1 : Nat) : Int).toNat = k + 1 := by omega
    have e2 : (((k + 1 : Nat) : Int) - 1).toNat = k := by omega
    rw [e1, e2]
    rfl
end
/-- the arcs turned round, by indices -/
def backL (L : List Int) (h : Int) : List (Int × Int × Int) := (arcsL L h).map fun a => (a.2.2, (0 : Int), a.1)
theorem backL_len (L : List Int) (h : Int) : (backL L h).length = (arcsL L h).length := by simp [backL]
theorem mem_arcsL {L : List Int} {h : Int} {a : Int × Int × Int} : a ∈ arcsL L h ↔ ∃ i, i < L.length ∧ ∃ t ∈ throwsL h (L.getD i 0), a = ((i : Int), t, idxI L (nextM (L.getD i 0) t)) := by
  unfold arcsL arcsTo arcsAt idxI
  simp only [List.mem_flatMap, List.mem_range, List.mem_map]
  constructor
  · rintro ⟨i, hi, t, ht, rfl⟩; exact ⟨i, hi, t, ht, rfl⟩
  · rintro ⟨i, hi, t, ht, rfl⟩; exact ⟨i, hi, t, ht, rfl⟩
theorem mem_backL {n h x z : Int} (hh : 1 ≤ h ∧ h ≤ 10) (hx : x ∈ maskL n h) :
    z ∈ adjX (backL (maskL n h) h) (idxI (maskL n h) x) ↔ ∃ y, y ∈ adjG (maskL n h) h x ∧ idxI (maskL n h) y = z := by
  have hn := nodup_of_sorted (maskL_sorted n h)
  unfold adjX backL
  simp only [List.mem_map, List.mem_filter]
  constructor
  · rintro ⟨_, ⟨⟨a, ha, rfl⟩, he⟩, rfl⟩
    obtain ⟨i, hi, t, ht, rfl⟩ := mem_arcsL.1 ha
    have hy := getD_mem' hi
    have hnx : nextM ((maskL n h).getD i 0) t ∈ maskL n h := adjM_mem hh hy (List.mem_map_of_mem ht)
    have e1 := idxI_inj hnx hx (by simpa using he)
    refine ⟨(maskL n h).getD i 0, mem_adjG.2 ⟨hy, by rw [← e1]; exact List.mem_map_of_mem ht⟩, ?_⟩
    have e : (maskL n h).getD i 0 = (maskL n h)[i] := by simp [List.getD, hi]
    rw [e]
    unfold idxI
    rw [idx_at hn i hi]
  · rintro ⟨y, hy, rfl⟩
    obtain ⟨h1, h2⟩ := mem_adjG.1 hy
    obtain ⟨t, ht, he⟩ := List.mem_map.1 h2
    have hl := idx_lt h1
    have hg := idx_get h1
    have e : (maskL n h).getD (idx (maskL n h) y) 0 = y := by rw [List.getD_eq_getElem?_getD, List.getElem?_eq_getElem hl, hg]; rfl
    refine ⟨_, ⟨⟨(((idx (maskL n h) y : Nat) : Int), t, idxI (maskL n h) x), mem_arcsL.2 ⟨idx (maskL n h) y, hl, t, by rw [e]; exact ht, by rw [e, he]⟩, rfl⟩, ?_⟩, rfl⟩
    simp
theorem walk_iso' {adj adj' : Int → List Int} {L : List Int} {φ : Int → Int} (hc : ∀ x ∈ L, ∀ y ∈ adj x, y ∈ L) (he : ∀ x ∈ L, ∀ z, z ∈ adj' (φ x) ↔ ∃ y, y ∈ adj x ∧ φ y = z) {a : Int} (ha : a ∈ L) :
    ∀ {k : Nat} {z : Int}, Walk adj' k (φ a) z ↔ ∃ b, Walk adj k a b ∧ φ b = z := by
  intro k
  induction k with
  | zero =>
    intro z
    constructor
    · intro h; exact ⟨a, rfl, h⟩
    · rintro ⟨b, rfl, h⟩; exact h
  | succ k ih =>
    intro z
    constructor
    · rintro ⟨c, h1, h2⟩
      obtain ⟨b, hb, rfl⟩ := ih.1 h1
      obtain ⟨y, hy, rfl⟩ := (he b (walk_mem hc ha hb) z).1 h2
      exact ⟨y, ⟨b, hb, hy⟩, rfl⟩
    · rintro ⟨y, ⟨b, hb, hy⟩, rfl⟩
      exact ⟨φ b, ih.2 ⟨b, hb, rfl⟩, (he b (walk_mem hc ha hb) _).2 ⟨y, hy, rfl⟩⟩
theorem dist_back {n h s y : Int} (hh : 1 ≤ h ∧ h ≤ 10) (hs : s ∈ maskL n h) (hy : y ∈ maskL n h) :
    dist (adjX (backL (maskL n h) h)) (idxI (maskL n h) s) (idxI (maskL n h) y) = some (farM h y s) := by
  obtain ⟨_, k, hk, hd⟩ := farM_eq hh hy hs
  have hw : ∀ j, Walk (adjX (backL (maskL n h) h)) j (idxI (maskL n h) s) (idxI (maskL n h) y) ↔ Walk (adjM h) j y s := fun j => by
    rw [← walk_rev hh hs hy, walk_iso' (L := maskL n h) (adj := adjG (maskL n h) h) (fun x _ z hz => (mem_adjG.1 hz).1) (fun x hx z => mem_backL hh hx) hs]
    constructor
    · rintro ⟨b, hb, he⟩
      have := idxI_inj (walk_mem (fun x _ z hz => (mem_adjG.1 hz).1) hs hb) hy he
      rw [← this]; exact hb
    · intro hb; exact ⟨y, hb, rfl⟩
  rw [hk]
  exact dist_of ⟨(hw k).2 hd.1, fun j hj => hd.2 j ((hw j).1 hj)⟩
theorem back_bd {n h : Int} (hX : ∀ a ∈ arcsL (maskL n h) h, (0 ≤ a.1 ∧ a.1 < (maskL n h).length) ∧ (0 ≤ a.2.2 ∧ a.2.2 < (maskL n h).length)) :
    ∀ a ∈ backL (maskL n h) h, (0 ≤ a.1 ∧ a.1 < (maskL n h).length) ∧ (0 ≤ a.2.2 ∧ a.2.2 < (maskL n h).length) := by
  intro a ha
  obtain ⟨x, hx, rfl⟩ := List.mem_map.1 ha
  exact ⟨(hX x hx).2, (hX x hx).1⟩
end Go.Proofs.YtioemkdapoombaaGreatDoor
end
section
set_option linter.unusedVariables false
namespace Go.Proofs.YtioemkdapoombaaGreatDoor
def sumN (f : Nat → Int) : Nat → Int
  | 0 => 0
  | k + 1 => sumN f k + f k
theorem sumN_congr {f g : Nat → Int} : ∀ {n : Nat}, (∀ i, i < n → f i = g i) → sumN f n = sumN g n := by
  intro n
  induction n with
  | zero => intro _; rfl
  | succ n ih => intro h; simp only [sumN]; rw [ih (fun i hi => h i (by omega)), h n (by omega)]
theorem sumN_add (f g : Nat → Int) : ∀ n, sumN (fun i => f i + g i) n = sumN f n + sumN g n := by
  intro n
  induction n with
  | zero => rfl
  | succ n ih => simp only [sumN]; rw [ih]; omega
theorem sumN_sub (f g : Nat → Int) : ∀ n, sumN (fun i => f i - g i) n = sumN f n - sumN g n := by
  intro n
  induction n with
  | zero => rfl
  | succ n ih => simp only [sumN]; rw [ih]; omega
theorem sumN_mul (c : Int) (f : Nat → Int) : ∀ n, sumN (fun i => c * f i) n = c * sumN f n := by
  intro n
  induction n with
  | zero => simp [sumN]
  | succ n ih => simp only [sumN]; rw [ih, Int.mul_add]
theorem sumN_zero (n : Nat) : sumN (fun _ => 0) n = 0 := by
  induction n with
  | zero => rfl
  | succ n ih => simp only [sumN]; rw [ih]; rfl
theorem sumN_one (n : Nat) : sumN (fun _ => 1) n = n := by
  induction n with
  | zero => rfl
  | succ n ih => simp only [sumN]; rw [ih]; simp
theorem sumN_swap (g : Nat → Nat → Int) (m : Nat) : ∀ n, sumN (fun i => sumN (g i) m) n = sumN (fun t => sumN (fun i => g i t) n) m := by
  intro n
  induction n with
  | zero => simp only [sumN]; rw [sumN_zero]
  | succ n ih => simp only [sumN]; rw [ih, ← sumN_add]
theorem sumN_single {j : Nat} (v : Int) : ∀ {n : Nat}, sumN (fun i => if i = j then v else 0) n = if j < n then v else 0 := by
  intro n
  induction n with
  | zero => simp [sumN]
  | succ n ih =>
    simp only [sumN]
    rw [ih]
    by_cases h1 : j < n
    · rw [if_pos h1, if_neg (by omega), if_pos (by omega)]; omega
    · by_cases h2 : n = j
      · rw [if_neg h1, if_pos h2, if_pos (by omega)]; omega
      · rw [if_neg h1, if_neg h2, if_neg (by omega)]; rfl
theorem sumN_le {f g : Nat → Int} : ∀ {n : Nat}, (∀ i, i < n → f i ≤ g i) → sumN f n ≤ sumN g n := by
  intro n
  induction n with
  | zero => intro _; exact Int.le_refl _
  | succ n ih => intro h; simp only [sumN]; have := ih (fun i hi => h i (by omega)); have := h n (by omega); omega
theorem sumN_tight {f g : Nat → Int} : ∀ {n : Nat}, (∀ i, i < n → f i ≤ g i) → sumN f n = sumN g n → ∀ i, i < n → f i = g i := by
  intro n
  induction n with
  | zero => intro _ _ i hi; omega
  | succ n ih =>
    intro h he i hi
    simp only [sumN] at he
    have h1 := sumN_le (f := f) (g := g) (n := n) (fun i hi => h i (by omega))
    have h2 := h n (by omega)
    by_cases e : i = n
    · subst e; omega
    · exact ih (fun i hi => h i (by omega)) (by omega) i (by omega)
/-- a map of 0 .. n-1 into itself that is one to one takes every number once -/
theorem hits_one {n : Nat} {f : Nat → Nat} (hf : ∀ i, i < n → f i < n) (hi : ∀ i j, i < n → j < n → f i = f j → i = j) : ∀ v, v < n → sumN (fun i => if f i = v then 1 else 0) n = 1 := by
  have hle : ∀ (m : Nat), m ≤ n → ∀ v, sumN (fun i => if f i = v then 1 else 0) m ≤ 1 ∧ ((∀ i, i < m → f i ≠ v) → sumN (fun i => if f i = v then 1 else 0) m = 0) := by
    intro m
    induction m with
    | zero => intro _ v; exact ⟨by simp [sumN], fun _ => rfl⟩
    | succ m ih =>
      intro hm v
      obtain ⟨h1, h2⟩ := ih (by omega) v
      simp only [sumN]
      by_cases hv : f m = v
      · have h0 := h2 (fun i him e => by have := hi i m (by omega) (by omega) (e.trans hv.symm); omega)
        rw [h0, if_pos hv]
        exact ⟨by omega, fun hne => absurd hv (hne m (by omega))⟩
      · rw [if_neg hv]
        exact ⟨by omega, fun hne => by rw [h2 (fun i him => hne i (by omega))]; rfl⟩
  refine sumN_tight (f := fun v => sumN (fun i => if f i = v then 1 else 0) n) (g := fun _ => 1) (fun v _ => (hle n (Nat.le_refl _) v).1) ?_
  rw [← sumN_swap (fun i v => if f i = v then 1 else 0) n n, sumN_one]
  have : sumN (fun i => sumN (fun v => if f i = v then 1 else 0) n) n = sumN (fun _ => 1) n := sumN_congr fun i hin => by
    have e : sumN (fun v => if f i = v then (1 : Int) else 0) n = sumN (fun v => if v = f i then 1 else 0) n := sumN_congr fun v _ => by
      by_cases h : f i = v
      · rw [if_pos h, if_pos h.symm]
      · rw [if_neg h, if_neg (fun e => h e.symm)]
    rw [e, sumN_single, if_pos (hf i hin)]
  rw [this, sumN_one]
theorem onto_of {n : Nat} {f : Nat → Nat} (hf : ∀ i, i < n → f i < n) (hi : ∀ i j, i < n → j < n → f i = f j → i = j) {v : Nat} (hv : v < n) : ∃ i, i < n ∧ f i = v := by
  by_cases hx : ∃ i, i < n ∧ f i = v
  · exact hx
  · have h1 := hits_one hf hi v hv
    have h2 : sumN (fun i => if f i = v then (1 : Int) else 0) n = sumN (fun _ => 0) n := sumN_congr fun i hin => if_neg fun e => hx ⟨i, hin, e⟩
    rw [h2, sumN_zero] at h1
    omega
theorem perm_sum {n : Nat} {f : Nat → Nat} (hf : ∀ i, i < n → f i < n) (hi : ∀ i j, i < n → j < n → f i = f j → i = j) : sumN (fun i => (f i : Int)) n = sumN (fun i => (i : Int)) n := by
  have h1 : sumN (fun i => (f i : Int)) n = sumN (fun i => sumN (fun v => if v = f i then (v : Int) else 0) n) n := sumN_congr fun i hin => by
    have e : sumN (fun v => if v = f i then (v : Int) else 0) n = sumN (fun v => if v = f i then (f i : Int) else 0) n := sumN_congr fun v _ => by
      by_cases h : v = f i
      · rw [if_pos h, if_pos h, h]
      · rw [if_neg h, if_neg h]
    rw [e, sumN_single, if_pos (hf i hin)]
  rw [h1, sumN_swap (fun i v => if v = f i then (v : Int) else 0) n n]
  refine sumN_congr fun v hv => ?_
  have e : sumN (fun i => if v = f i then (v : Int) else 0) n = sumN (fun i => (v : Int) * (if f i = v then 1 else 0)) n := sumN_congr fun i _ => by
    by_cases h : f i = v
    · rw [if_pos h.symm, if_pos h, Int.mul_one]
    · rw [if_neg (fun e => h e.symm), if_neg h, Int.mul_zero]
  rw [e, sumN_mul, hits_one hf hi v hv, Int.mul_one]
/-- how many numbers below P have a remainder -/
theorem cnt_mod {n s : Nat} (hn : 0 < n) (hs : s < n) : ∀ P, sumN (fun t => if t % n = s then 1 else 0) P = (((P + n - 1 - s) / n : Nat) : Int) := by
  intro P
  induction P with
  | zero =>
    simp only [sumN]
    rw [Nat.div_eq_of_lt (by omega)]
    rfl
  | succ P ih =>
    simp only [sumN]
    rw [ih]
    have e : P + 1 + n - 1 - s = (P + n - 1 - s) + 1 := by omega
    rw [e, Nat.succ_div]
    have hd : (n ∣ P + n - 1 - s + 1) ↔ P % n = s := by
      have e2 : P + n - 1 - s + 1 = P + (n - s) := by omega
      rw [e2, Nat.dvd_iff_mod_eq_zero, Nat.add_mod]
      have h1 := Nat.mod_lt P hn
      by_cases h0 : s = 0
      · subst h0
        rw [Nat.sub_zero, Nat.mod_self, Nat.add_zero, Nat.mod_mod]
      · rw [Nat.mod_eq_of_lt (show n - s < n by omega)]
        constructor
        · intro h
          rcases Nat.lt_or_ge (P % n + (n - s)) n with h2 | h2
          · rw [Nat.mod_eq_of_lt h2] at h; omega
          · rw [Nat.mod_eq_sub_mod h2, Nat.mod_eq_of_lt (by omega)] at h; omega
        · intro h
          have : P % n + (n - s) = n := by omega
          rw [this, Nat.mod_self]
    by_cases hx : P % n = s
    · rw [if_pos hx, if_pos (hd.2 hx)]; omega
    · rw [if_neg hx, if_neg (fun h => hx (hd.1 h))]; omega
theorem cnt_land {n a P : Nat} (ha : a < n) : sumN (fun t => if t % n = (a + P) % n then 1 else 0) P = (((a + P) / n : Nat) : Int) := by
  have hn : 0 < n := by omega
  rw [cnt_mod hn (Nat.mod_lt _ hn)]
  congr 1
  have h1 := Nat.div_add_mod (a + P) n
  have h2 := Nat.mod_lt (a + P) hn
  generalize (a + P) / n = q at *
  generalize (a + P) % n = r at *
  have e : P + n - 1 - r = n * q + (n - 1 - a) := by omega
  rw [e, Nat.mul_add_div hn, Nat.div_eq_of_lt (by omega)]
  rfl
end Go.Proofs.YtioemkdapoombaaGreatDoor
end
section
set_option linter.unusedVariables false
namespace Go.Proofs.YtioemkdapoombaaGreatDoor
theorem emod_iff (n x y : Int) : x % n = y % n ↔ n ∣ x - y := by
  rw [Int.emod_eq_emod_iff_emod_sub_eq_zero]
  exact ⟨Int.dvd_of_emod_eq_zero, Int.emod_eq_zero_of_dvd⟩
theorem dvd_small {n x : Int} (hn : 0 < n) (h : n ∣ x) (h1 : -n < x) (h2 : x < n) : x = 0 := by
  obtain ⟨k, rfl⟩ := h
  have h3 : k = 0 := by
    have a1 : n * k < n * 1 := by rw [Int.mul_one]; exact h2
    have a2 : n * (-1) < n * k := by rw [Int.mul_neg, Int.mul_one]; exact h1
    have b1 := Int.lt_of_mul_lt_mul_left a1 (Int.le_of_lt hn)
    have b2 := Int.lt_of_mul_lt_mul_left a2 (Int.le_of_lt hn)
    omega
  rw [h3, Int.mul_zero]
theorem validP_iff {p : List Int} : validP p = true ↔ ((∀ x ∈ p, 0 ≤ x ∧ x ≤ 15) ∧ (1 ≤ p.length ∧ p.length ≤ 12)) ∧ clashFree (landL p) := by
  unfold validP
  rw [Bool.and_eq_true, okThrows_iff, clashB_iff]
def liN (p : List Int) (r : Int) : Nat := (landL p).idxOf r
section
variable {p : List Int}
theorem at_mem {i : Nat} (hi : i < p.length) : p.getD i 0 ∈ p := getD_mem' hi
theorem land_bd (hv : validP p = true) (i : Nat) : 0 ≤ landAt p i ∧ landAt p i < p.length := by
  have h := (validP_iff.1 hv).1.2
  unfold landAt
  exact ⟨Int.emod_nonneg _ (by omega), Int.emod_lt_of_pos _ (by omega)⟩
theorem land_inj (hv : validP p = true) {i j : Nat} (hi : i < p.length) (hj : j < p.length) (h : landAt p i = landAt p j) : i = j := by
  have hc := (validP_iff.1 hv).2
  have hl : (landL p).length = p.length := by simp [landL]
  rcases Nat.lt_trichotomy i j with h1 | h1 | h1
  · exact absurd (by unfold landL; rw [landTo_get _ _ _ hi, landTo_get _ _ _ hj, h]) (hc j (by omega) i h1)
  · exact h1
  · exact absurd (by unfold landL; rw [landTo_get _ _ _ hi, landTo_get _ _ _ hj, h]) (hc i (by omega) j h1)
theorem land_onto (hv : validP p = true) {r : Int} (hr : 0 ≤ r ∧ r < p.length) : ∃ i, i < p.length ∧ landAt p i = r := by
  obtain ⟨i, hi, he⟩ := onto_of (n := p.length) (f := fun i => (landAt p i).toNat) (fun i _ => by have := land_bd hv i; omega)
    (fun i j hi hj h => by have h1 := land_bd hv i; have h2 := land_bd hv j; exact land_inj hv hi hj (by omega)) (v := r.toNat) (by omega)
  have := land_bd hv i
  exact ⟨i, hi, by omega⟩
theorem li_ok (hv : validP p = true) {r : Int} (hr : 0 ≤ r ∧ r < p.length) : liN p r < p.length ∧ landAt p (liN p r) = r := by
  obtain ⟨i, hi, he⟩ := land_onto hv hr
  have hl : (landL p).length = p.length := by simp [landL]
  have hm : r ∈ landL p := by
    unfold landL landTo
    exact List.mem_map.2 ⟨i, List.mem_range.2 hi, he⟩
  have h1 : liN p r < (landL p).length := List.idxOf_lt_length_of_mem hm
  have h2 : (landL p)[liN p r] = r := List.getElem_idxOf h1
  rw [hl] at h1
  refine ⟨h1, ?_⟩
  have h3 := landTo_get p p.length (liN p r) h1
  rw [← h3]
  have h4 : (landL p).getD (liN p r) 0 = (landL p)[liN p r] := by simp [List.getD, hl, h1]
  unfold landL at h4 h2
  rw [h4]
  exact h2
theorem li_uniq (hv : validP p = true) {r : Int} {k : Nat} (hk : k < p.length) (h : landAt p k = r) : liN p r = k := by
  have hr : 0 ≤ r ∧ r < p.length := by rw [← h]; exact land_bd hv k
  have := li_ok hv hr
  exact land_inj hv this.1 hk (by rw [this.2, h])
/-- does a prop land t beats after beat b that was thrown before b? -/
def stB (p : List Int) (b : Int) (t : Nat) : Bool := decide ((t : Int) < p.getD (liN p ((b + t) % (p.length : Int))) 0)
def stTo (p : List Int) (b : Int) : Nat → Int
  | 0 => 0
  | k + 1 => bif stB p b k then (((stTo p b k).toNat ||| 2 ^ k : Nat) : Int) else stTo p b k
theorem stTo_succ (p : List Int) (b : Int) (k : Nat) : stTo p b (k + 1) = bif stB p b k then (((stTo p b k).toNat ||| 2 ^ k : Nat) : Int) else stTo p b k := rfl
def stM (p : List Int) (b h : Int) : Int := stTo p b h.toNat
theorem stTo_bd (p : List Int) (b : Int) : ∀ k, 0 ≤ stTo p b k ∧ stTo p b k < ((2 ^ k : Nat) : Int) := by
  intro k
  induction k with
  | zero => simp [stTo]
  | succ k ih =>
    have h2 : 2 ^ (k + 1) = 2 ^ k + 2 ^ k := by rw [Nat.pow_succ]; omega
    unfold stTo
    cases stB p b k
    · rw [cond_false]; omega
    · rw [cond_true]
      have h3 : (stTo p b k).toNat < 2 ^ (k + 1) := by omega
      have h4 := Nat.or_lt_two_pow h3 (show 2 ^ k < 2 ^ (k + 1) by omega)
      exact ⟨Int.natCast_nonneg _, Int.ofNat_lt.2 h4⟩
theorem stTo_pop (p : List Int) (b : Int) : ∀ k, k ≤ 10 → popI (stTo p b k) = sumN (fun t => if stB p b t = true then 1 else 0) k := by
  intro k
  induction k with
  | zero => intro _; show popI 0 = 0; decide
  | succ k ih =>
    intro hk
    have hb := stTo_bd p b k
    simp only [sumN]
    rw [← ih (by omega), stTo_succ]
    cases hs : stB p b k
    · rw [cond_false]; simp
    · rw [cond_true, if_pos rfl]
      have e : (((stTo p b k).toNat : Nat) : Int) = stTo p b k := by omega
      have hbit : bitB (((stTo p b k).toNat : Nat) : Int) k = false := by
        rw [e]
        exact bit_high hb.1 (j := k) (by have := hb.2; simpa using this) (Nat.le_refl _)
      have := popTo_or (stTo p b k).toNat k 10 hbit
      unfold popI
      rw [this, e, if_pos (by omega)]
theorem stM_bd (p : List Int) (b h : Int) : 0 ≤ stM p b h ∧ stM p b h < 2 ^ h.toNat := by
  have := stTo_bd p b h.toNat
  unfold stM
  simpa using this
theorem sumN_cut {f : Nat → Int} {m : Nat} (hz : ∀ t, m ≤ t → f t = 0) : ∀ {n : Nat}, m ≤ n → sumN f n = sumN f m := by
  intro n
  induction n with
  | zero => intro h; obtain rfl : m = 0 := by omega
            rfl
  | succ n ih =>
    intro h
    by_cases e : m = n + 1
    · subst e; rfl
    · simp only [sumN]
      rw [ih (by omega), hz n (by omega), Int.add_zero]
theorem sumN_get (p : List Int) : ∀ k, k ≤ p.length → sumN (fun i => p.getD i 0) k = (p.take k).sum := by
  intro k
  induction k with
  | zero => intro _; simp [sumN]
  | succ k ih =>
    intro hk
    simp only [sumN]
    rw [ih (by omega), take_snoc _ _ (by omega), List.sum_append]
    simp [List.getD, show k < p.length by omega]
/-- the number of the index i, counted from beat b on -/
def offN (n : Nat) (b : Int) (i : Nat) : Nat := (((i : Int) - b) % (n : Int)).toNat
theorem offN_eq {n : Nat} (hn : 0 < n) (b : Int) (i : Nat) : ((offN n b i : Nat) : Int) = ((i : Int) - b) % (n : Int) := by
  have := Int.emod_nonneg ((i : Int) - b) (show (n : Int) ≠ 0 by omega)
  unfold offN
  omega
theorem offN_lt {n : Nat} (hn : 0 < n) (b : Int) (i : Nat) : offN n b i < n := by
  have h1 := offN_eq hn b i
  have h2 := Int.emod_lt_of_pos ((i : Int) - b) (show (0 : Int) < n by omega)
  omega
theorem off_dvd {n : Nat} (hn : 0 < n) (b : Int) (i : Nat) : (n : Int) ∣ ((offN n b i : Nat) : Int) - ((i : Int) - b) := by
  rw [offN_eq hn]
  exact (emod_iff _ _ _).1 (Int.emod_emod_of_dvd _ (Int.dvd_refl _))
theorem land_iff (hv : validP p = true) (b : Int) (i t : Nat) (hi : i < p.length) : landAt p i = (b + t) % (p.length : Int) ↔ t % p.length = (offN p.length b i + (p.getD i 0).toNat) % p.length := by
  have hn : 0 < p.length := by have := (validP_iff.1 hv).1.2; omega
  have hp := (validP_iff.1 hv).1.1 _ (at_mem hi)
  have e1 : (t % p.length = (offN p.length b i + (p.getD i 0).toNat) % p.length) ↔ ((t : Int) % (p.length : Int) = (((offN p.length b i : Nat) : Int) + p.getD i 0) % (p.length : Int)) := by
    have e2 : ((offN p.length b i : Nat) : Int) + p.getD i 0 = ((offN p.length b i + (p.getD i 0).toNat : Nat) : Int) := by omega
    rw [e2]
    constructor
    · intro h; exact_mod_cast h
    · intro h; exact_mod_cast h
  rw [e1]
  unfold landAt
  rw [emod_iff, emod_iff]
  have hd := off_dvd hn b i
  generalize ((offN p.length b i : Nat) : Int) = a at *
  generalize p.getD i 0 = P at *
  constructor
  · intro h
    have h1 := Int.dvd_neg.2 (Int.dvd_add h hd)
    have e : -((i : Int) + P - (b + t) + (a - ((i : Int) - b))) = (t : Int) - (a + P) := by omega
    rwa [e] at h1
  · intro h
    have h1 := Int.dvd_neg.2 (Int.dvd_add h hd)
    have e : -((t : Int) - (a + P) + (a - ((i : Int) - b))) = (i : Int) + P - (b + t) := by omega
    rwa [e] at h1
theorem stM_sum (hv : validP p = true) (b : Int) {H : Nat} (hp : ∀ x ∈ p, x ≤ H) : (p.length : Int) * sumN (fun t => if stB p b t = true then 1 else 0) H = p.sum := by
  have hv' := validP_iff.1 hv
  have hn : 0 < p.length := by have := hv'.1.2; omega
  have hst : ∀ t, t < H → (if stB p b t = true then (1 : Int) else 0) = sumN (fun i => if landAt p i = (b + t) % (p.length : Int) ∧ (t : Int) < p.getD i 0 then 1 else 0) p.length := fun t _ => by
    have hr : 0 ≤ (b + t) % (p.length : Int) ∧ (b + t) % (p.length : Int) < p.length := ⟨Int.emod_nonneg _ (by omega), Int.emod_lt_of_pos _ (by omega)⟩
    obtain ⟨h1, h2⟩ := li_ok hv hr
    have e : sumN (fun i => if landAt p i = (b + t) % (p.length : Int) ∧ (t : Int) < p.getD i 0 then (1 : Int) else 0) p.length = sumN (fun i => if i = liN p ((b + t) % (p.length : Int)) then (if stB p b t = true then 1 else 0) else 0) p.length := sumN_congr fun i hi => by
      by_cases hli : i = liN p ((b + t) % (p.length : Int))
      · rw [if_pos hli]
        unfold stB
        rw [hli]
        by_cases hlt : (t : Int) < p.getD (liN p ((b + t) % (p.length : Int))) 0
        · rw [if_pos ⟨h2, hlt⟩]; simp only [hlt, decide_true, if_true]
        · rw [if_neg (fun e => hlt e.2)]; simp only [hlt, decide_false]; rfl
      · rw [if_neg hli, if_neg (fun e => hli (li_uniq hv hi e.1).symm)]
    rw [e, sumN_single, if_pos h1]
  rw [sumN_congr hst, sumN_swap (fun t i => if landAt p i = (b + t) % (p.length : Int) ∧ (t : Int) < p.getD i 0 then 1 else 0) p.length H]
  have hin : ∀ i, i < p.length → sumN (fun t => if landAt p i = (b + (t : Nat)) % (p.length : Int) ∧ (t : Int) < p.getD i 0 then (1 : Int) else 0) H = (((offN p.length b i + (p.getD i 0).toNat) / p.length : Nat) : Int) := fun i hi => by
    have hb := hv'.1.1 _ (at_mem hi)
    have hH := hp _ (at_mem hi)
    rw [sumN_cut (m := (p.getD i 0).toNat) (fun t ht => if_neg (fun e => by have := e.2; omega)) (by omega), ← cnt_land (offN_lt hn b i)]
    refine sumN_congr fun t ht => ?_
    have := land_iff hv b i t hi
    by_cases hx : landAt p i = (b + (t : Nat)) % (p.length : Int)
    · rw [if_pos ⟨hx, by omega⟩, if_pos (this.1 hx)]
    · rw [if_neg (fun e => hx e.1), if_neg (fun e => hx (this.2 e))]
  rw [sumN_congr hin, ← sumN_mul]
  have he : ∀ i, i < p.length → (p.length : Int) * (((offN p.length b i + (p.getD i 0).toNat) / p.length : Nat) : Int) = (((offN p.length b i : Nat) : Int) + p.getD i 0) - (((offN p.length b i + (p.getD i 0).toNat) % p.length : Nat) : Int) := fun i hi => by
    have hb := hv'.1.1 _ (at_mem hi)
    have h1 := Nat.div_add_mod (offN p.length b i + (p.getD i 0).toNat) p.length
    have h2 : ((p.length * ((offN p.length b i + (p.getD i 0).toNat) / p.length) : Nat) : Int) = (p.length : Int) * (((offN p.length b i + (p.getD i 0).toNat) / p.length : Nat) : Int) := by simp
    rw [← h2]
    omega
  rw [sumN_congr he, sumN_sub, sumN_add]
  have hoi : ∀ i j, i < p.length → j < p.length → offN p.length b i = offN p.length b j → i = j := fun i j hi hj h => by
    have h1 := off_dvd hn b i
    have h2 := off_dvd hn b j
    rw [h] at h1
    have h3 := Int.dvd_sub h2 h1
    have e : ((offN p.length b j : Nat) : Int) - ((j : Int) - b) - (((offN p.length b j : Nat) : Int) - ((i : Int) - b)) = (i : Int) - j := by omega
    rw [e] at h3
    have := dvd_small (by omega) h3 (by omega) (by omega)
    omega
  have hri : ∀ i j, i < p.length → j < p.length → (offN p.length b i + (p.getD i 0).toNat) % p.length = (offN p.length b j + (p.getD j 0).toNat) % p.length → i = j := fun i j hi hj h => by
    have hm := Nat.mod_lt (offN p.length b i + (p.getD i 0).toNat) hn
    obtain ⟨t, ht⟩ : ∃ t, t = (offN p.length b i + (p.getD i 0).toNat) % p.length := ⟨_, rfl⟩
    have ht2 : t % p.length = t := Nat.mod_eq_of_lt (by omega)
    have h1 := (land_iff hv b i t hi).2 (by rw [ht2, ht])
    have h2 := (land_iff hv b j t hj).2 (by rw [ht2, ht, h])
    exact land_inj hv hi hj (h1.trans h2.symm)
  rw [perm_sum (f := fun i => offN p.length b i) (fun i _ => offN_lt hn b i) hoi, perm_sum (f := fun i => (offN p.length b i + (p.getD i 0).toNat) % p.length) (fun i _ => Nat.mod_lt _ hn) hri, sumN_get p _ (Nat.le_refl _), List.take_length]
  omega
/-- the number of props -/
def propsP (p : List Int) : Int := p.sum / (p.length : Int)
theorem stM_pop (hv : validP p = true) (b : Int) {h : Int} (hh : 1 ≤ h ∧ h ≤ 10) (hp : ∀ x ∈ p, x ≤ h) : popI (stM p b h) = propsP p := by
  have h1 := stM_sum hv b (H := h.toNat) (fun x hx => by have := hp x hx; omega)
  have h2 := stTo_pop p b h.toNat (by omega)
  have hn : 0 < p.length := by have := (validP_iff.1 hv).1.2; omega
  unfold stM propsP
  rw [h2, ← h1, Int.mul_comm, Int.mul_ediv_cancel _ (by omega)]
theorem stM_mem (hv : validP p = true) (b : Int) {h : Int} (hh : 1 ≤ h ∧ h ≤ 10) (hp : ∀ x ∈ p, x ≤ h) : stM p b h ∈ maskL (propsP p) h := mem_maskL.2 ⟨stM_bd p b h, stM_pop hv b hh hp⟩
theorem props_bd (hv : validP p = true) {h : Int} (hh : 1 ≤ h ∧ h ≤ 10) (hp : ∀ x ∈ p, x ≤ h) : 0 ≤ propsP p ∧ propsP p ≤ h := by
  have h1 := stM_pop hv 0 hh hp
  have h2 := popTo_bd (stM p 0 h) h.toNat
  have h3 := popTo_all (stM_bd p 0 h).1 (j := h.toNat) (stM_bd p 0 h).2 (by omega)
  rw [← h1, ← h3]
  omega
end
theorem pop_ground : ∀ k : Nat, k ≤ 10 → popI (2 ^ k - 1 : Int) = k := by
  intro k hk
  have : k = 0 ∨ k = 1 ∨ k = 2 ∨ k = 3 ∨ k = 4 ∨ k = 5 ∨ k = 6 ∨ k = 7 ∨ k = 8 ∨ k = 9 ∨ k = 10 := by omega
  rcases this with rfl | rfl | rfl | rfl | rfl | rfl | rfl | rfl | rfl | rfl | rfl <;> decide
def groundI (n : Int) : Int := 2 ^ n.toNat - 1
theorem ground_mem {n h : Int} (hh : 1 ≤ h ∧ h ≤ 10) (hn : 0 ≤ n ∧ n ≤ h) : groundI n ∈ maskL n h := by
  have h1 : (1 : Int) ≤ 2 ^ n.toNat := pow_pos_int _
  have h2 : (2 : Nat) ^ n.toNat ≤ 2 ^ h.toNat := Nat.pow_le_pow_right (by omega) (by omega)
  have h3 : (2 : Int) ^ n.toNat ≤ 2 ^ h.toNat := by exact_mod_cast h2
  have h4 := pop_ground n.toNat (by omega)
  unfold groundI
  exact mem_maskL.2 ⟨by omega, by rw [h4]; omega⟩
end Go.Proofs.YtioemkdapoombaaGreatDoor
end
section
set_option linter.unusedVariables false
namespace Go.Proofs.YtioemkdapoombaaGreatDoor
def mxF (b : Int) (l : List Int) : Int := l.foldl max b
theorem mxF_snoc (b x : Int) (l : List Int) : mxF b (l ++ [x]) = max (mxF b l) x := by simp [mxF]
theorem mxF_ge (b : Int) (l : List Int) : b ≤ mxF b l ∧ (∀ v ∈ l, v ≤ mxF b l) ∧ (mxF b l = b ∨ mxF b l ∈ l) := by
  induction l generalizing b with
  | nil => exact ⟨Int.le_refl _, fun v hv => (by cases hv), Or.inl rfl⟩
  | cons x l ih =>
    obtain ⟨h1, h2, h3⟩ := ih (max b x)
    have e : mxF b (x :: l) = mxF (max b x) l := rfl
    rw [e]
    refine ⟨by omega, fun v hv => ?_, ?_⟩
    · rcases List.mem_cons.1 hv with rfl | hv
      · omega
      · exact h2 v hv
    · rcases h3 with h3 | h3
      · by_cases hbx : b ≤ x
        · right; rw [h3, show max b x = x by omega]; exact List.mem_cons_self ..
        · left; rw [h3]; omega
      · right; exact List.mem_cons_of_mem _ h3
end Go.Proofs.YtioemkdapoombaaGreatDoor
end
