/- PlainSt, PlainCl: laid one behind the other. -/
import Derived.Test.YtjjghmmpfnlpaaaPlainG
section
set_option linter.unusedVariables false
namespace Go.Proofs.Ytjjghmmpfnlpaaa
theorem bit_zero (t : Nat) : bitB 0 (t : Int) = false := by simp [bitB]
theorem bit_st (p : List Int) (b : Int) : ∀ (k t : Nat), bitB (stTo p b k) (t : Int) = (decide (t < k) && stB p b t)
  | 0, t => by rw [show stTo p b 0 = 0 from rfl, bit_zero]; simp
  | k + 1, t => by
    have ih := bit_st p b k t
    have hb := (stTo_bd p b k).1
    rw [stTo_succ]
    cases hs : stB p b k
    · rw [cond_false, ih]
      by_cases e : t = k
      · subst e; rw [hs]; simp
      · have : (t < k + 1) ↔ (t < k) := by omega
        simp only [this]
    · rw [cond_true, bit_or, show (((stTo p b k).toNat : Nat) : Int) = stTo p b k by omega, ih]
      by_cases e : t = k
      · subst e; rw [hs]; simp
      · have h1 : (t < k + 1) ↔ (t < k) := by omega
        have h2 : ¬ k = t := fun h => e h.symm
        simp only [h1, h2, decide_false, Bool.or_false]
theorem bit_next {m t : Int} (hm : 0 ≤ m) (j : Nat) : bitB (nextM m t) (j : Int) = (bitB m ((j + 1 : Nat) : Int) || (decide (0 < t) && decide ((t - 1).toNat = j))) := by
  unfold nextM
  have hm2 : 0 ≤ m / 2 := Int.ediv_nonneg hm (by decide)
  by_cases ht : 0 < t
  · rw [decide_eq_true ht, cond_true, bit_or, show (((m / 2).toNat : Nat) : Int) = m / 2 by omega, bit_half m j hm, Bool.true_and]
  · rw [decide_eq_false ht, cond_false, bit_half m j hm, Bool.false_and, Bool.or_false]
theorem eq_of_bits {a b : Int} (ha : 0 ≤ a) (hb : 0 ≤ b) (h : ∀ t : Nat, bitB a (t : Int) = bitB b (t : Int)) : a = b := by
  obtain ⟨x, rfl⟩ := Int.eq_ofNat_of_zero_le ha
  obtain ⟨y, rfl⟩ := Int.eq_ofNat_of_zero_le hb
  congr 1
  apply Nat.eq_of_testBit_eq
  intro i
  have := h i
  rwa [bit_nat, bit_nat] at this
/-- the throw at a beat -/
def tAt (p : List Int) (b : Int) : Int := p.getD (b % (p.length : Int)).toNat 0
section
variable {p : List Int}
theorem tAt_idx (hv : validP p = true) (b : Int) : (b % (p.length : Int)).toNat < p.length ∧ (((b % (p.length : Int)).toNat : Nat) : Int) = b % (p.length : Int) := by
  have h := (validP_iff.1 hv).1.2
  have h1 := Int.emod_nonneg b (show (p.length : Int) ≠ 0 by omega)
  have h2 := Int.emod_lt_of_pos b (show (0 : Int) < p.length by omega)
  omega
theorem tAt_bd (hv : validP p = true) (b : Int) : 0 ≤ tAt p b ∧ tAt p b ≤ 15 := (validP_iff.1 hv).1.1 _ (at_mem (tAt_idx hv b).1)
/-- the throw at beat b lands at b + t -/
theorem li_at (hv : validP p = true) (b : Int) : liN p ((b + tAt p b) % (p.length : Int)) = (b % (p.length : Int)).toNat := by
  obtain ⟨h1, h2⟩ := tAt_idx hv b
  refine li_uniq hv h1 ?_
  unfold landAt
  rw [h2]
  show (b % (p.length : Int) + tAt p b) % (p.length : Int) = _
  rw [Int.add_emod, Int.emod_emod_of_dvd b (Int.dvd_refl _), ← Int.add_emod]
/-- what lands at c with the height P was thrown at c - P -/
theorem li_back (hv : validP p = true) {c P : Int} (hP : p.getD (liN p (c % (p.length : Int))) 0 = P) : tAt p (c - P) = P := by
  have hn := (validP_iff.1 hv).1.2
  have hr : 0 ≤ c % (p.length : Int) ∧ c % (p.length : Int) < p.length := ⟨Int.emod_nonneg _ (by omega), Int.emod_lt_of_pos _ (by omega)⟩
  obtain ⟨h1, h2⟩ := li_ok hv hr
  unfold landAt at h2
  rw [hP] at h2
  have e : (c - P) % (p.length : Int) = ((liN p (c % (p.length : Int)) : Nat) : Int) := by
    have h3 : ((liN p (c % (p.length : Int)) : Nat) : Int) % (p.length : Int) = ((liN p (c % (p.length : Int)) : Nat) : Int) := Int.emod_eq_of_lt (by omega) (by omega)
    rw [← h3]
    have h4 := (emod_iff _ _ _).1 h2
    refine (emod_iff _ _ _).2 ?_
    have h5 := Int.dvd_neg.2 h4
    have e2 : -(((liN p (c % (p.length : Int)) : Nat) : Int) + P - c) = c - P - ((liN p (c % (p.length : Int)) : Nat) : Int) := by omega
    rwa [e2] at h5
  unfold tAt
  rw [e]
  simpa using hP
theorem step_st (hv : validP p = true) {h : Int} (hh : 1 ≤ h ∧ h ≤ 10) (hp : ∀ x ∈ p, x ≤ h) (b : Int) : canB h (stM p b h) (tAt p b) = true ∧ nextM (stM p b h) (tAt p b) = stM p (b + 1) h := by
  obtain ⟨hi, -⟩ := tAt_idx hv b
  have ht := tAt_bd hv b
  have hth : tAt p b ≤ h := hp _ (at_mem hi)
  have hbm := stM_bd p b h
  have hbit : ∀ t : Nat, bitB (stM p b h) (t : Int) = (decide (t < h.toNat) && stB p b t) := fun t => bit_st p b h.toNat t
  have hbit1 : ∀ t : Nat, bitB (stM p (b + 1) h) (t : Int) = (decide (t < h.toNat) && stB p (b + 1) t) := fun t => bit_st p (b + 1) h.toNat t
  have hli := li_at hv b
  have hb0 : bitB (stM p b h) 0 = decide (tAt p b ≠ 0) := by
    have h1 := hbit 0
    rw [show ((0 : Nat) : Int) = 0 from rfl] at h1
    rw [h1, decide_eq_true (show 0 < h.toNat by omega), Bool.true_and]
    unfold stB
    rw [show b + ((0 : Nat) : Int) = b by omega]
    by_cases h0 : tAt p b = 0
    · rw [h0, show b + 0 = b by omega] at hli
      rw [hli]
      have : p.getD (b % (p.length : Int)).toNat 0 = 0 := h0
      rw [this, h0]; simp
    · obtain ⟨P, hP⟩ : ∃ P, p.getD (liN p (b % (p.length : Int))) 0 = P := ⟨_, rfl⟩
      have h2 := li_back hv hP
      have hPb : 0 ≤ P := by rw [← hP]; exact ((validP_iff.1 hv).1.1 _ (at_mem (li_ok hv ⟨Int.emod_nonneg _ (by omega), Int.emod_lt_of_pos _ (by omega)⟩).1)).1
      have hP0 : P ≠ 0 := fun e => by rw [e, show b - 0 = b by omega] at h2; exact h0 h2
      rw [hP, decide_eq_true h0, decide_eq_true (show ((0 : Nat) : Int) < P by omega)]
  refine ⟨?_, ?_⟩
  · rw [canB_iff]
    by_cases h0 : tAt p b = 0
    · exact Or.inl ⟨h0, by rw [hb0, h0]; rfl⟩
    · refine Or.inr ⟨h0, by omega, by rw [hb0]; exact decide_eq_true h0, ?_⟩
      obtain ⟨T, hT⟩ : ∃ T : Nat, tAt p b = (T : Int) := ⟨(tAt p b).toNat, by omega⟩
      rw [hT, hbit]
      unfold stB
      rw [hT] at hli
      rw [hli]
      have : p.getD (b % (p.length : Int)).toNat 0 = (T : Int) := hT
      rw [this]; simp
  · have hnb := next_bd hh hbm hth
    refine eq_of_bits hnb.1 (stM_bd p (b + 1) h).1 fun j => ?_
    rw [bit_next hbm.1, hbit1, hbit]
    have hcj : b + 1 + (j : Int) = b + ((j + 1 : Nat) : Int) := by omega
    have hsb : stB p (b + 1) j = decide ((j : Int) < p.getD (liN p ((b + ((j + 1 : Nat) : Int)) % (p.length : Int))) 0) := by unfold stB; rw [hcj]
    have hsb2 : stB p b (j + 1) = decide (((j + 1 : Nat) : Int) < p.getD (liN p ((b + ((j + 1 : Nat) : Int)) % (p.length : Int))) 0) := rfl
    obtain ⟨P, hP⟩ : ∃ P, p.getD (liN p ((b + ((j + 1 : Nat) : Int)) % (p.length : Int))) 0 = P := ⟨_, rfl⟩
    have hn := (validP_iff.1 hv).1.2
    have hPh : P ≤ h := by rw [← hP]; exact hp _ (at_mem (li_ok hv ⟨Int.emod_nonneg _ (by omega), Int.emod_lt_of_pos _ (by omega)⟩).1)
    rw [hsb, hsb2, hP]
    have key : P = ((j + 1 : Nat) : Int) ↔ tAt p b = ((j + 1 : Nat) : Int) := by
      constructor
      · intro e
        have h2 := li_back hv hP
        rw [e, show b + ((j + 1 : Nat) : Int) - ((j + 1 : Nat) : Int) = b by omega] at h2
        exact h2
      · intro e
        rw [e] at hli
        rw [hli] at hP
        rw [← hP]; exact e
    by_cases hk : P = ((j + 1 : Nat) : Int)
    · have h3 := key.1 hk
      rw [decide_eq_true (show 0 < tAt p b by omega), decide_eq_true (show (tAt p b - 1).toNat = j by omega), decide_eq_true (show j < h.toNat by omega), decide_eq_true (show (j : Int) < P by omega)]
      simp
    · have h3 : ¬ tAt p b = ((j + 1 : Nat) : Int) := fun e => hk (key.2 e)
      have h4 : (decide (0 < tAt p b) && decide ((tAt p b - 1).toNat = j)) = false := by
        by_cases h5 : 0 < tAt p b
        · rw [decide_eq_false (show ¬ (tAt p b - 1).toNat = j by omega), Bool.and_false]
        · rw [decide_eq_false h5, Bool.false_and]
      rw [h4, Bool.or_false]
      have e1 : ((j : Int) < P) ↔ (((j + 1 : Nat) : Int) < P) := by omega
      by_cases h6 : ((j + 1 : Nat) : Int) < P
      · rw [decide_eq_true h6, decide_eq_true (e1.2 h6), decide_eq_true (show j + 1 < h.toNat by omega), decide_eq_true (show j < h.toNat by omega)]
      · rw [decide_eq_false h6, decide_eq_false (fun e => h6 (e1.1 e)), Bool.and_false, Bool.and_false]
end
end Go.Proofs.Ytjjghmmpfnlpaaa
end
section
set_option linter.unusedVariables false
namespace Go.Proofs.Ytjjghmmpfnlpaaa
theorem mk_bd {n h m : Int} (hh : 1 ≤ h ∧ h ≤ 10) (hm : m ∈ maskL n h) : 0 ≤ m ∧ m < 1024 := by
  have h1 := (mem_maskL.1 hm).1
  have h2 := pow_le_1024 h.toNat (by omega)
  omega
/-- throws that are possible one behind the other, from one state to another -/
def Wk (h : Int) : Int → List Int → Int → Prop
  | m, [], m' => m = m'
  | m, t :: ts, m' => canB h m t = true ∧ Wk h (nextM m t) ts m'
theorem Wk.append {h : Int} : ∀ {xs : List Int} {m m1 m2 : Int} {ys : List Int}, Wk h m xs m1 → Wk h m1 ys m2 → Wk h m (xs ++ ys) m2
  | [], m, m1, m2, ys, h1, h2 => by have e : m = m1 := h1; subst e; exact h2
  | t :: ts, m, m1, m2, ys, h1, h2 => ⟨h1.1, Wk.append h1.2 h2⟩
theorem Wk.mem {n h : Int} (hh : 1 ≤ h ∧ h ≤ 10) : ∀ {xs : List Int} {m m' : Int}, m ∈ maskL n h → Wk h m xs m' → m' ∈ maskL n h
  | [], m, m', hm, h1 => by have e : m = m' := h1; subst e; exact hm
  | t :: ts, m, m', hm, h1 => Wk.mem hh (next_mem hh hm h1.1) h1.2
/-- the state behind the first k throws -/
def rnM (m : Int) (xs : List Int) (k : Nat) : Int := (xs.take k).foldl nextM m
theorem rnM_succ (m : Int) (xs : List Int) (k : Nat) (hk : k < xs.length) : rnM m xs (k + 1) = nextM (rnM m xs k) (xs.getD k 0) := by
  have e : xs.getD k 0 = xs[k] := by simp [List.getD, hk]
  unfold rnM
  rw [e, List.take_add_one, List.getElem?_eq_getElem hk, Option.toList_some, List.foldl_append]
  rfl
theorem Wk.at {h : Int} : ∀ {xs : List Int} {m m' : Int}, Wk h m xs m' → (∀ k, k < xs.length → canB h (rnM m xs k) (xs.getD k 0) = true) ∧ rnM m xs xs.length = m'
  | [], m, m', h1 => ⟨fun k hk => by simp at hk, h1⟩
  | t :: ts, m, m', h1 => by
    obtain ⟨h2, h3⟩ := Wk.at h1.2
    refine ⟨fun k hk => ?_, ?_⟩
    · cases k with
      | zero => exact h1.1
      | succ k => exact h2 k (by simpa using hk)
    · exact h3
theorem wk_short {n h b : Int} (hh : 1 ≤ h ∧ h ≤ 10) (hb : b ∈ maskL n h) : ∀ (k : Nat) {a : Int}, a ∈ maskL n h → (farM h a b).toNat = k → Wk h a (shortL h a b) b := by
  intro k
  induction k with
  | zero =>
    intro a ha hk
    by_cases e : a = b
    · subst e; rw [shortL_self]; exact rfl
    · have h1 := shortL_step hh ha hb e
      have h2 := shortL_len h a b
      rw [h1, hk] at h2
      simp at h2
  | succ k ih =>
    intro a ha hk
    by_cases e : a = b
    · subst e; rw [shortL_self]; exact rfl
    · rw [shortL_step hh ha hb e]
      obtain ⟨h1, h2⟩ := pick_some hh ha hb e
      have h3 := (mem_throwsL (by omega)).1 h1
      exact ⟨h3.2, ih (next_mem hh ha h3.2) (by rw [h2]; omega)⟩
theorem short_wk {n h a b : Int} (hh : 1 ≤ h ∧ h ≤ 10) (ha : a ∈ maskL n h) (hb : b ∈ maskL n h) : Wk h a (shortL h a b) b := wk_short hh hb _ ha rfl
theorem short_nil {n h a b : Int} (hh : 1 ≤ h ∧ h ≤ 10) (ha : a ∈ maskL n h) (hb : b ∈ maskL n h) : (shortL h a b).length = 0 ↔ a = b := by
  constructor
  · intro h1
    by_cases e : a = b
    · exact e
    · rw [shortL_step hh ha hb e] at h1; simp at h1
  · intro e; subst e; rw [shortL_self]; rfl
theorem stM_add (p : List Int) (b h : Int) : stM p (b + (p.length : Int)) h = stM p b h := by
  have h1 : ∀ t : Nat, stB p (b + (p.length : Int)) t = stB p b t := fun t => by
    unfold stB
    rw [show b + (p.length : Int) + (t : Int) = b + (t : Int) + (p.length : Int) by omega, Int.add_emod_right]
  have h2 : ∀ k, stTo p (b + (p.length : Int)) k = stTo p b k := fun k => by
    induction k with
    | zero => rfl
    | succ k ih => rw [stTo_succ, stTo_succ, ih, h1]
  exact h2 _
/-- a pattern leads from its first state back to it -/
theorem wk_pat {p : List Int} {h : Int} (hv : validP p = true) (hh : 1 ≤ h ∧ h ≤ 10) (hp : ∀ x ∈ p, x ≤ h) : Wk h (stM p 0 h) p (stM p 0 h) := by
  have hn := (validP_iff.1 hv).1.2
  have key : ∀ j, j ≤ p.length → Wk h (stM p ((p.length - j : Nat) : Int) h) (p.drop (p.length - j)) (stM p (p.length : Int) h) := by
    intro j
    induction j with
    | zero =>
      intro _
      rw [Nat.sub_zero, List.drop_length]
      exact rfl
    | succ j ih =>
      intro hj
      have hlt : p.length - (j + 1) < p.length := by omega
      have e : p.length - j = p.length - (j + 1) + 1 := by omega
      obtain ⟨h1, h2⟩ := step_st hv hh hp ((p.length - (j + 1) : Nat) : Int)
      have ht : tAt p ((p.length - (j + 1) : Nat) : Int) = p[p.length - (j + 1)] := by
        unfold tAt
        rw [Int.emod_eq_of_lt (by omega) (by omega)]
        simp [List.getD, hlt]
      rw [ht] at h1 h2
      rw [List.drop_eq_getElem_cons hlt]
      refine ⟨h1, ?_⟩
      rw [h2, ← e]
      have := ih (by omega)
      rw [show ((p.length - (j + 1) : Nat) : Int) + 1 = ((p.length - j : Nat) : Int) by omega]
      exact this
  have h1 := key p.length (Nat.le_refl _)
  rw [Nat.sub_self, List.drop_zero] at h1
  have h2 := stM_add p 0 h
  rw [show (0 : Int) + (p.length : Int) = (p.length : Int) by omega] at h2
  rw [h2] at h1
  exact h1
theorem stM_high {p : List Int} {h : Int} (hv : validP p = true) (hh : 1 ≤ h ∧ h ≤ 10) (hp : ∀ x ∈ p, x ≤ h) (b : Int) : stM p b 10 = stM p b h := by
  have hn := (validP_iff.1 hv).1.2
  refine eq_of_bits (stM_bd p b 10).1 (stM_bd p b h).1 fun t => ?_
  have h1 : bitB (stM p b 10) (t : Int) = (decide (t < (10 : Int).toNat) && stB p b t) := bit_st p b _ t
  have h2 : bitB (stM p b h) (t : Int) = (decide (t < h.toNat) && stB p b t) := bit_st p b _ t
  rw [h1, h2]
  by_cases ht : t < h.toNat
  · rw [decide_eq_true ht, decide_eq_true (show t < (10 : Int).toNat by omega)]
  · have hs : stB p b t = false := by
      unfold stB
      have := hp _ (at_mem (li_ok hv (r := (b + (t : Int)) % (p.length : Int)) ⟨Int.emod_nonneg _ (by omega), Int.emod_lt_of_pos _ (by omega)⟩).1)
      exact decide_eq_false (by omega)
    rw [hs, Bool.and_false, Bool.and_false]
/-- the sum of the places of the bits -/
def phiM (m : Int) : Int := ((List.range 10).map fun t : Nat => if bitB m (t : Int) = true then (t : Int) else 0).sum
theorem phi_all : ((List.range 1024).all fun m => (List.range 11).all fun t => !canB 10 (m : Int) (t : Int) || decide (phiM (nextM (m : Int) (t : Int)) + popI (m : Int) = phiM (m : Int) + (t : Int))) = true := by decide +kernel
theorem phi_step {h m t : Int} (hh : 1 ≤ h ∧ h ≤ 10) (hm : 0 ≤ m ∧ m < 1024) (hc : canB h m t = true) : phiM (nextM m t) + popI m = phiM m + t ∧ (0 ≤ t ∧ t ≤ h) := by
  have ht : 0 ≤ t ∧ t ≤ h := by
    rcases canB_iff.1 hc with ⟨h1, _⟩ | ⟨_, h1, _⟩ <;> omega
  have hc10 : canB 10 m t = true := by
    rcases canB_iff.1 hc with h1 | ⟨h1, h2, h3, h4⟩
    · exact canB_iff.2 (Or.inl h1)
    · exact canB_iff.2 (Or.inr ⟨h1, by omega, h3, h4⟩)
  obtain ⟨a, rfl⟩ := Int.eq_ofNat_of_zero_le hm.1
  obtain ⟨b, rfl⟩ := Int.eq_ofNat_of_zero_le ht.1
  have h1 := List.all_eq_true.1 phi_all a (List.mem_range.2 (by omega))
  have h2 := List.all_eq_true.1 h1 b (List.mem_range.2 (by omega))
  rw [hc10] at h2
  exact ⟨by simpa using h2, ht⟩
section
variable {n h m : Int} {xs : List Int}
theorem rn_mem (hh : 1 ≤ h ∧ h ≤ 10) (hm : m ∈ maskL n h) (hw : ∀ k, k < xs.length → canB h (rnM m xs k) (xs.getD k 0) = true) : ∀ k, k ≤ xs.length → rnM m xs k ∈ maskL n h := by
  intro k
  induction k with
  | zero => intro _; exact hm
  | succ k ih =>
    intro hk
    rw [rnM_succ m xs k (by omega)]
    exact next_mem hh (ih (by omega)) (hw k (by omega))
theorem phi_run (hh : 1 ≤ h ∧ h ≤ 10) (hm : m ∈ maskL n h) (hw : ∀ k, k < xs.length → canB h (rnM m xs k) (xs.getD k 0) = true) : ∀ k, k ≤ xs.length → phiM (rnM m xs k) + (k : Int) * n = phiM m + (xs.take k).sum := by
  intro k
  induction k with
  | zero => intro _; simp [rnM]
  | succ k ih =>
    intro hk
    have h1 := ih (by omega)
    have hmk := rn_mem hh hm hw k (by omega)
    have h2 := (phi_step hh (mk_bd hh hmk) (hw k (by omega))).1
    rw [(mem_maskL.1 hmk).2] at h2
    rw [rnM_succ m xs k (by omega)]
    have e : xs.getD k 0 = xs[k] := by simp [List.getD, show k < xs.length by omega]
    rw [take_snoc _ _ (by omega), List.sum_append]
    rw [e] at h2
    rw [e]
    have e2 : ((k + 1 : Nat) : Int) * n = (k : Int) * n + n := by rw [Int.natCast_add, Int.add_mul]; simp
    rw [e2]
    simp only [List.sum_cons, List.sum_nil]
    omega
/-- the throws of a walk in a ring, for ever -/
theorem ring_fly (hh : 1 ≤ h ∧ h ≤ 10) (hm : m ∈ maskL n h) (hw : Wk h m xs m) (hx : 0 < xs.length) (u : Nat) : ∀ j : Nat, (j : Int) < xs.getD (u % xs.length) 0 →
    bitB (rnM m xs ((u + 1 + j) % xs.length)) (((xs.getD (u % xs.length) 0).toNat - 1 - j : Nat) : Int) = true := by
  obtain ⟨hc, hend⟩ := hw.at
  have hstep : ∀ v : Nat, rnM m xs ((v + 1) % xs.length) = nextM (rnM m xs (v % xs.length)) (xs.getD (v % xs.length) 0) := fun v => by
    have hv := Nat.mod_lt v hx
    rw [← rnM_succ m xs (v % xs.length) hv]
    by_cases e : v % xs.length + 1 = xs.length
    · have : (v + 1) % xs.length = 0 := by
        rw [Nat.add_mod, ← Nat.mod_mod v, Nat.mod_mod, show v % xs.length = xs.length - 1 by omega]
        by_cases e1 : xs.length = 1
        · rw [e1]
        · rw [Nat.mod_eq_of_lt (show 1 < xs.length by omega), show xs.length - 1 + 1 = xs.length by omega, Nat.mod_self]
      rw [this, e, hend]; rfl
    · have : (v + 1) % xs.length = v % xs.length + 1 := by
        have h1 := Nat.div_add_mod v xs.length
        rw [show v + 1 = (v % xs.length + 1) + xs.length * (v / xs.length) by omega, Nat.add_mul_mod_self_left, Nat.mod_eq_of_lt (by omega)]
      rw [this]
  intro j
  induction j with
  | zero =>
    intro hj
    rw [Nat.add_zero, hstep u]
    have hmu := rn_mem hh hm hc (u % xs.length) (Nat.le_of_lt (Nat.mod_lt u hx))
    rw [bit_next (mk_bd hh hmu).1, decide_eq_true (show 0 < xs.getD (u % xs.length) 0 by omega), decide_eq_true (show (xs.getD (u % xs.length) 0 - 1).toNat = (xs.getD (u % xs.length) 0).toNat - 1 - 0 by omega)]
    simp
  | succ j ih =>
    intro hj
    have h1 := ih (by omega)
    rw [show u + 1 + (j + 1) = u + 1 + j + 1 by omega, hstep (u + 1 + j)]
    have hmu := rn_mem hh hm hc ((u + 1 + j) % xs.length) (Nat.le_of_lt (Nat.mod_lt _ hx))
    rw [bit_next (mk_bd hh hmu).1, show (xs.getD (u % xs.length) 0).toNat - 1 - (j + 1) + 1 = (xs.getD (u % xs.length) 0).toNat - 1 - j by omega, h1, Bool.true_or]
theorem ring_free (hh : 1 ≤ h ∧ h ≤ 10) (hm : m ∈ maskL n h) (hw : Wk h m xs m) (hx : 0 < xs.length) {u v : Nat} (huv : u < v) : ((u : Int) + xs.getD (u % xs.length) 0) ≠ (v : Int) + xs.getD (v % xs.length) 0 := by
  intro he
  obtain ⟨hc, -⟩ := hw.at
  have hcv := hc (v % xs.length) (Nat.mod_lt v hx)
  have hcu := hc (u % xs.length) (Nat.mod_lt u hx)
  have hmu := rn_mem hh hm hc (u % xs.length) (Nat.le_of_lt (Nat.mod_lt u hx))
  have hmv := rn_mem hh hm hc (v % xs.length) (Nat.le_of_lt (Nat.mod_lt v hx))
  have hu0 := (phi_step hh (mk_bd hh hmu) hcu).2
  have hv0 := (phi_step hh (mk_bd hh hmv) hcv).2
  have h1 := ring_fly hh hm hw hx u (v - u - 1) (by omega)
  rw [show u + 1 + (v - u - 1) = v by omega] at h1
  have e : (((xs.getD (u % xs.length) 0).toNat - 1 - (v - u - 1) : Nat) : Int) = xs.getD (v % xs.length) 0 := by omega
  rw [e] at h1
  rcases canB_iff.1 hcv with ⟨h2, h3⟩ | ⟨_, _, _, h3⟩
  · rw [h2, h3] at h1; cases h1
  · rw [h3] at h1; cases h1
/-- a walk in a ring is a pattern -/
theorem ring_ok (hh : 1 ≤ h ∧ h ≤ 10) (hm : m ∈ maskL n h) (hw : Wk h m xs m) (hx : 1 ≤ xs.length ∧ xs.length ≤ 12) : validP xs = true ∧ propsP xs = n := by
  obtain ⟨hc, hend⟩ := hw.at
  have hx0 : 0 < xs.length := by omega
  refine ⟨validP_iff.2 ⟨⟨fun x hx2 => ?_, hx⟩, fun i hi k hk he => ?_⟩, ?_⟩
  · obtain ⟨i, hi, rfl⟩ := List.mem_iff_getElem.1 hx2
    have e : xs.getD i 0 = xs[i] := by simp [List.getD, hi]
    have hmi := rn_mem hh hm hc i (by omega)
    have := (phi_step hh (mk_bd hh hmi) (hc i hi)).2
    rw [e] at this
    omega
  · have hl : (landL xs).length = xs.length := by simp [landL]
    rw [hl] at hi
    unfold landL at he
    rw [landTo_get _ _ _ hi, landTo_get _ _ _ (by omega)] at he
    unfold landAt at he
    obtain ⟨c, hcc⟩ := (emod_iff _ _ _).1 he
    have hik : i % xs.length = i := Nat.mod_eq_of_lt hi
    have hkk : k % xs.length = k := Nat.mod_eq_of_lt (by omega)
    rcases Int.lt_or_le c 0 with hc0 | hc0
    · obtain ⟨d, hd⟩ : ∃ d : Nat, c = -(d : Int) := ⟨(-c).toNat, by omega⟩
      have hm1 : (k + xs.length * d) % xs.length = k := by rw [Nat.add_mul_mod_self_left, hkk]
      have hdm : (xs.length : Int) * c = -((xs.length * d : Nat) : Int) := by rw [hd, Int.mul_neg]; simp
      rw [hdm] at hcc
      rcases Nat.lt_trichotomy (k + xs.length * d) i with h1 | h1 | h1
      · have := ring_free hh hm hw hx0 h1
        rw [hm1, hik] at this
        exact this (by omega)
      · rw [← h1, Nat.add_mul_mod_self_left, hkk] at hik; omega
      · have := ring_free hh hm hw hx0 h1
        rw [hm1, hik] at this
        exact this (by omega)
    · obtain ⟨d, hd⟩ : ∃ d : Nat, c = (d : Int) := ⟨c.toNat, by omega⟩
      have hm1 : (i + xs.length * d) % xs.length = i := by rw [Nat.add_mul_mod_self_left, hik]
      have hdm : (xs.length : Int) * c = ((xs.length * d : Nat) : Int) := by rw [hd]; simp
      rw [hdm] at hcc
      have h1 : k < i + xs.length * d := by omega
      have := ring_free hh hm hw hx0 h1
      rw [hm1, hkk] at this
      exact this (by omega)
  · have h1 := phi_run hh hm hc xs.length (Nat.le_refl _)
    rw [hend, List.take_length] at h1
    have h2 : xs.sum = n * (xs.length : Int) := by rw [Int.mul_comm]; omega
    unfold propsP
    rw [h2, Int.mul_ediv_cancel _ (by omega)]
end
end Go.Proofs.Ytjjghmmpfnlpaaa
end
