/- The plain law of a pattern's states: each throw is possible in the state ahead of it and leads to the next state. -/
import Derived.Test.YtpcaaohdlcoplaaPlainG
namespace Go.Proofs.Ytpcaaohdlcoplaa
theorem bit_zero (t : Nat) : bitB 0 (t : Int) = false := by simp [bitB]
theorem bit_st (p : List Int) (b : Int) : ∀ (k t : Nat), bitB (stTo p b k) (t : Int) = (decide (t < k) && stB p b t)
  | 0, t => by rw [show stTo p b 0 = 0 from rfl, bit_zero]; simp
  | k + 1, t => by
    have ih := bit_st p b k t
    have hb := (stTo_bd p b k).1
    rw [stTo_succ]
    cases hs : stB p b k
    · rw [cond_false, ih]
      by_cases e : t = k
      · subst e; rw [hs]; simp
      · have : (t < k + 1) ↔ (t < k) := by omega
        simp only [this]
    · rw [cond_true, bit_or, show (((stTo p b k).toNat : Nat) : Int) = stTo p b k by omega, ih]
      by_cases e : t = k
      · subst e; rw [hs]; simp
      · have h1 : (t < k + 1) ↔ (t < k) := by omega
        have h2 : ¬ k = t := fun h => e h.symm
        simp only [h1, h2, decide_false, Bool.or_false]
theorem bit_next {m t : Int} (hm : 0 ≤ m) (j : Nat) : bitB (nextM m t) (j : Int) = (bitB m ((j + 1 : Nat) : Int) || (decide (0 < t) && decide ((t - 1).toNat = j))) := by
  unfold nextM
  have hm2 : 0 ≤ m / 2 := Int.ediv_nonneg hm (by decide)
  by_cases ht : 0 < t
  · rw [decide_eq_true ht, cond_true, bit_or, show (((m / 2).toNat : Nat) : Int) = m / 2 by omega, bit_half m j hm, Bool.true_and]
  · rw [decide_eq_false ht, cond_false, bit_half m j hm, Bool.false_and, Bool.or_false]
theorem eq_of_bits {a b : Int} (ha : 0 ≤ a) (hb : 0 ≤ b) (h : ∀ t : Nat, bitB a (t : Int) = bitB b (t : Int)) : a = b := by
  obtain ⟨x, rfl⟩ := Int.eq_ofNat_of_zero_le ha
  obtain ⟨y, rfl⟩ := Int.eq_ofNat_of_zero_le hb
  congr 1
  apply Nat.eq_of_testBit_eq
  intro i
  have := h i
  rwa [bit_nat, bit_nat] at this
/-- the throw at a beat -/
def tAt (p : List Int) (b : Int) : Int := p.getD (b % (p.length : Int)).toNat 0
section
variable {p : List Int}
theorem tAt_idx (hv : validP p = true) (b : Int) : (b % (p.length : Int)).toNat < p.length ∧ (((b % (p.length : Int)).toNat : Nat) : Int) = b % (p.length : Int) := by
  have h := (validP_iff.1 hv).1.2
  have h1 := Int.emod_nonneg b (show (p.length : Int) ≠ 0 by omega)
  have h2 := Int.emod_lt_of_pos b (show (0 : Int) < p.length by omega)
  omega
theorem tAt_bd (hv : validP p = true) (b : Int) : 0 ≤ tAt p b ∧ tAt p b ≤ 15 := (validP_iff.1 hv).1.1 _ (at_mem (tAt_idx hv b).1)
/-- the throw at beat b lands at b + t -/
theorem li_at (hv : validP p = true) (b : Int) : liN p ((b + tAt p b) % (p.length : Int)) = (b % (p.length : Int)).toNat := by
  obtain ⟨h1, h2⟩ := tAt_idx hv b
  refine li_uniq hv h1 ?_
  unfold landAt
  rw [h2]
  show (b % (p.length : Int) + tAt p b) % (p.length : Int) = _
  rw [Int.add_emod, Int.emod_emod_of_dvd b (Int.dvd_refl _), ← Int.add_emod]
/-- what lands at c with the height P was thrown at c - P -/
theorem li_back (hv : validP p = true) {c P : Int} (hP : p.getD (liN p (c % (p.length : Int))) 0 = P) : tAt p (c - P) = P := by
  have hn := (validP_iff.1 hv).1.2
  have hr : 0 ≤ c % (p.length : Int) ∧ c % (p.length : Int) < p.length := ⟨Int.emod_nonneg _ (by omega), Int.emod_lt_of_pos _ (by omega)⟩
  obtain ⟨h1, h2⟩ := li_ok hv hr
  unfold landAt at h2
  rw [hP] at h2
  have e : (c - P) % (p.length : Int) = ((liN p (c % (p.length : Int)) : Nat) : Int) := by
    have h3 : ((liN p (c % (p.length : Int)) : Nat) : Int) % (p.length : Int) = ((liN p (c % (p.length : Int)) : Nat) : Int) := Int.emod_eq_of_lt (by omega) (by omega)
    rw [← h3]
    have h4 := (emod_iff _ _ _).1 h2
    refine (emod_iff _ _ _).2 ?_
    have h5 := Int.dvd_neg.2 h4
    have e2 : -(((liN p (c % (p.length : Int)) : Nat) : Int) + P - c) = c - P - ((liN p (c % (p.length : Int)) : Nat) : Int) := by omega
    rwa [e2] at h5
  unfold tAt
  rw [e]
  simpa using hP
theorem step_st (hv : validP p = true) {h : Int} (hh : 1 ≤ h ∧ h ≤ 10) (hp : ∀ x ∈ p, x ≤ h) (b : Int) : canB h (stM p b h) (tAt p b) = true ∧ nextM (stM p b h) (tAt p b) = stM p (b + 1) h := by
  obtain ⟨hi, -⟩ := tAt_idx hv b
  have ht := tAt_bd hv b
  have hth : tAt p b ≤ h := hp _ (at_mem hi)
  have hbm := stM_bd p b h
  have hbit : ∀ t : Nat, bitB (stM p b h) (t : Int) = (decide (t < h.toNat) && stB p b t) := fun t => bit_st p b h.toNat t
  have hbit1 : ∀ t : Nat, bitB (stM p (b + 1) h) (t : Int) = (decide (t < h.toNat) && stB p (b + 1) t) := fun t => bit_st p (b + 1) h.toNat t
  have hli := li_at hv b
  have hb0 : bitB (stM p b h) 0 = decide (tAt p b ≠ 0) := by
    have h1 := hbit 0
    rw [show ((0 : Nat) : Int) = 0 from rfl] at h1
    rw [h1, decide_eq_true (show 0 < h.toNat by omega), Bool.true_and]
    unfold stB
    rw [show b + ((0 : Nat) : Int) = b by omega]
    by_cases h0 : tAt p b = 0
    · rw [h0, show b + 0 = b by omega] at hli
      rw [hli]
      have : p.getD (b % (p.length : Int)).toNat 0 = 0 := h0
      rw [this, h0]; simp
    · obtain ⟨P, hP⟩ : ∃ P, p.getD (liN p (b % (p.length : Int))) 0 = P := ⟨_, rfl⟩
      have h2 := li_back hv hP
      have hPb : 0 ≤ P := by rw [← hP]; exact ((validP_iff.1 hv).1.1 _ (at_mem (li_ok hv ⟨Int.emod_nonneg _ (by omega), Int.emod_lt_of_pos _ (by omega)⟩).1)).1
      have hP0 : P ≠ 0 := fun e => by rw [e, show b - 0 = b by omega] at h2; exact h0 h2
      rw [hP, decide_eq_true h0, decide_eq_true (show ((0 : Nat) : Int) < P by omega)]
  refine ⟨?_, ?_⟩
  · rw [canB_iff]
    by_cases h0 : tAt p b = 0
    · exact Or.inl ⟨h0, by rw [hb0, h0]; rfl⟩
    · refine Or.inr ⟨h0, by omega, by rw [hb0]; exact decide_eq_true h0, ?_⟩
      obtain ⟨T, hT⟩ : ∃ T : Nat, tAt p b = (T : Int) := ⟨(tAt p b).toNat, by omega⟩
      rw [hT, hbit]
      unfold stB
      rw [hT] at hli
      rw [hli]
      have : p.getD (b % (p.length : Int)).toNat 0 = (T : Int) := hT
      rw [this]; simp
  · have hnb := next_bd hh hbm hth
    refine eq_of_bits hnb.1 (stM_bd p (b + 1) h).1 fun j => ?_
    rw [bit_next hbm.1, hbit1, hbit]
    have hcj : b + 1 + (j : Int) = b + ((j + 1 : Nat) : Int) := by omega
    have hsb : stB p (b + 1) j = decide ((j : Int) < p.getD (liN p ((b + ((j + 1 : Nat) : Int)) % (p.length : Int))) 0) := by unfold stB; rw [hcj]
    have hsb2 : stB p b (j + 1) = decide (((j + 1 : Nat) : Int) < p.getD (liN p ((b + ((j + 1 : Nat) : Int)) % (p.length : Int))) 0) := rfl
    obtain ⟨P, hP⟩ : ∃ P, p.getD (liN p ((b + ((j + 1 : Nat) : Int)) % (p.length : Int))) 0 = P := ⟨_, rfl⟩
    have hn := (validP_iff.1 hv).1.2
    have hPh : P ≤ h := by rw [← hP]; exact hp _ (at_mem (li_ok hv ⟨Int.emod_nonneg _ (by omega), Int.emod_lt_of_pos _ (by omega)⟩).1)
    rw [hsb, hsb2, hP]
    have key : P = ((j + 1 : Nat) : Int) ↔ tAt p b = ((j + 1 : Nat) : Int) := by
      constructor
      · intro e
        have h2 := li_back hv hP
        rw [e, show b + ((j + 1 : Nat) : Int) - ((j + 1 : Nat) : Int) = b by omega] at h2
        exact h2
      · intro e
        rw [e] at hli
        rw [hli] at hP
        rw [← hP]; exact e
    by_cases hk : P = ((j + 1 : Nat) : Int)
    · have h3 := key.1 hk
      rw [decide_eq_true (show 0 < tAt p b by omega), decide_eq_true (show (tAt p b - 1).toNat = j by omega), decide_eq_true (show j < h.toNat by omega), decide_eq_true (show (j : Int) < P by omega)]
      simp
    · have h3 : ¬ tAt p b = ((j + 1 : Nat) : Int) := fun e => hk (key.2 e)
      have h4 : (decide (0 < tAt p b) && decide ((tAt p b - 1).toNat = j)) = false := by
        by_cases h5 : 0 < tAt p b
        · rw [decide_eq_false (show ¬ (tAt p b - 1).toNat = j by omega), Bool.and_false]
        · rw [decide_eq_false h5, Bool.false_and]
      rw [h4, Bool.or_false]
      have e1 : ((j : Int) < P) ↔ (((j + 1 : Nat) : Int) < P) := by omega
      by_cases h6 : ((j + 1 : Nat) : Int) < P
      · rw [decide_eq_true h6, decide_eq_true (e1.2 h6), decide_eq_true (show j + 1 < h.toNat by omega), decide_eq_true (show j < h.toNat by omega)]
      · rw [decide_eq_false h6, decide_eq_false (fun e => h6 (e1.1 e)), Bool.and_false, Bool.and_false]
end
end Go.Proofs.Ytpcaaohdlcoplaa
