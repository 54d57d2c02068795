/- The order of props, and which of them is thrown next at each beat: plain facts. No program. -/
import Derived.Test.YtgcmnpimkfmccaaDoorPlainG
namespace Go.Proofs.YtgcmnpimkfmccaaDoor
set_option linter.unusedVariables false
section
variable {p : List Int}
/-- the throw at a beat, and where the throw that lands at a beat came from -/
def atP (p : List Int) (b : Int) : Int := p.getD (b % (p.length : Int)).toNat 0
def frP (p : List Int) (b : Int) : Int := b - p.getD (liN p (b % (p.length : Int))) 0
theorem mod_bd (hv : validP p = true) (b : Int) : 0 ≤ b % (p.length : Int) ∧ b % (p.length : Int) < p.length := by
  have hn := (validP_iff.1 hv).1.2
  exact ⟨Int.emod_nonneg _ (by omega), Int.emod_lt_of_pos _ (by omega)⟩
theorem at_bd (hv : validP p = true) (b : Int) : 0 ≤ atP p b ∧ atP p b ≤ 15 := by
  have h := mod_bd hv b
  exact (validP_iff.1 hv).1.1 _ (at_mem (p := p) (i := (b % (p.length : Int)).toNat) (by omega))
theorem fr_le (hv : validP p = true) (b : Int) : frP p b ≤ b ∧ b ≤ frP p b + 15 := by
  have h := li_ok hv (mod_bd hv b)
  have := (validP_iff.1 hv).1.1 _ (at_mem (p := p) h.1)
  unfold frP
  omega
/-- what is thrown at c lands at c + the throw: and from nowhere else -/
theorem fr_of (hv : validP p = true) (c : Int) : frP p (c + atP p c) = c := by
  have hm := mod_bd hv c
  have hn := (validP_iff.1 hv).1.2
  have hl : landAt p (c % (p.length : Int)).toNat = (c + atP p c) % (p.length : Int) := by
    unfold landAt atP
    have e : (((c % (p.length : Int)).toNat : Nat) : Int) = c % (p.length : Int) := by omega
    rw [e, Int.emod_add_emod]
  have := li_uniq hv (k := (c % (p.length : Int)).toNat) (by omega) hl
  unfold frP
  rw [this]
  show c + atP p c - atP p c = c
  omega
theorem at_fr (hv : validP p = true) (b : Int) : frP p b + atP p (frP p b) = b := by
  have hm := mod_bd hv b
  have hn := (validP_iff.1 hv).1.2
  obtain ⟨h1, h2⟩ := li_ok hv hm
  have hli : (frP p b) % (p.length : Int) = ((liN p (b % (p.length : Int)) : Nat) : Int) := by
    rw [← Int.emod_eq_of_lt (Int.natCast_nonneg (liN p (b % (p.length : Int)))) (show ((liN p (b % (p.length : Int)) : Nat) : Int) < p.length by omega), emod_iff]
    unfold landAt at h2
    have h3 := (emod_iff _ _ _).1 (h2.trans (Int.emod_emod_of_dvd _ (Int.dvd_refl _)).symm |>.trans (Int.emod_emod_of_dvd _ (Int.dvd_refl _)))
    have h4 := Int.dvd_neg.2 h3
    unfold frP
    generalize p.getD (liN p (b % (p.length : Int))) 0 = y at *
    generalize ((liN p (b % (p.length : Int)) : Nat) : Int) = z at *
    have e : -(z + y - b) = b - y - z := by omega
    rwa [e] at h4
  have ha : atP p (frP p b) = p.getD (liN p (b % (p.length : Int))) 0 := by
    unfold atP
    rw [hli, Int.toNat_natCast]
  rw [ha]
  unfold frP
  omega
theorem fr_self (hv : validP p = true) (b : Int) : atP p b = 0 ↔ frP p b = b := by
  constructor
  · intro h
    have := fr_of hv b
    rwa [h, Int.add_zero] at this
  · intro h
    have := at_fr hv b
    rw [h] at this
    omega
theorem fr_lt (hv : validP p = true) {b : Int} (h : atP p b ≠ 0) : frP p b < b := by
  have h1 := (fr_le hv b).1
  have h2 : frP p b ≠ b := fun e => h ((fr_self hv b).2 e)
  omega
theorem fr_inj (hv : validP p = true) {b c : Int} (h : frP p b = frP p c) : b = c := by
  have h1 := at_fr hv b
  have h2 := at_fr hv c
  rw [h] at h1
  omega
theorem stB_fr (b : Int) (t : Nat) : stB p b t = decide (frP p (b + t) < b) := by
  unfold stB frP
  rw [decide_eq_decide]
  omega
/-- how many props were thrown for the first time before beat k -/
def cntP (p : List Int) (k : Nat) : Int := sumN (fun t => if stB p 0 t = true then 1 else 0) k
theorem cntP_succ (p : List Int) (k : Nat) : cntP p (k + 1) = cntP p k + (if frP p k < 0 then 1 else 0) := by
  unfold cntP
  simp only [sumN]
  rw [stB_fr]
  congr 1
  simp only [Int.zero_add, decide_eq_true_eq]
theorem cntP_mono (p : List Int) {j k : Nat} (h : j ≤ k) : cntP p j ≤ cntP p k := by
  induction k with
  | zero => obtain rfl : j = 0 := by omega
            exact Int.le_refl _
  | succ k ih =>
    by_cases e : j = k + 1
    · subst e; exact Int.le_refl _
    · rw [cntP_succ]
      have := ih (by omega)
      split <;> omega
theorem cntP_zero (p : List Int) : cntP p 0 = 0 := rfl
theorem cntP_nonneg (p : List Int) (k : Nat) : 0 ≤ cntP p k := by
  have := cntP_mono p (Nat.zero_le k)
  rw [cntP_zero] at this
  exact this
/-- in the air or in a hand between two beats: as many as there are props -/
theorem air_sum (hv : validP p = true) (b : Int) {H : Nat} (hp : ∀ x ∈ p, x ≤ H) : sumN (fun t => if stB p b t = true then (1 : Int) else 0) H = propsP p := by
  have h1 := stM_sum hv b hp
  have hn : 0 < p.length := by have := (validP_iff.1 hv).1.2; omega
  unfold propsP
  rw [← h1, Int.mul_comm, Int.mul_ediv_cancel _ (by omega)]
theorem cntP_le (hv : validP p = true) (k : Nat) : cntP p k ≤ propsP p := by
  have h1 := cntP_mono p (show k ≤ k + 15 by omega)
  have h2 := air_sum hv 0 (H := k + 15) (fun x hx => by have := (validP_iff.1 hv).1.1 x hx; omega)
  unfold cntP at h1 ⊢
  omega
/-- the number of the prop that is thrown at each of the first k beats; -1 where none is -/
def ordL (p : List Int) : Nat → List Int
  | 0 => []
  | k + 1 => ordL p k ++ [if atP p k = 0 then -1 else if frP p k < 0 then cntP p k else (ordL p k).getD (frP p k).toNat 0]
theorem ordL_len (p : List Int) : ∀ k, (ordL p k).length = k
  | 0 => rfl
  | k + 1 => by simp [ordL, ordL_len p k]
def ordA (p : List Int) (k : Nat) : Int := (ordL p (k + 1)).getD k 0
theorem ordL_get (p : List Int) {k m : Nat} (h : k < m) : (ordL p m).getD k 0 = ordA p k := by
  induction m with
  | zero => omega
  | succ m ih =>
    by_cases e : k = m
    · subst e; rfl
    · have hk : k < (ordL p m).length := by rw [ordL_len]; omega
      have : (ordL p (m + 1)).getD k 0 = (ordL p m).getD k 0 := by
        simp only [ordL, List.getD_eq_getElem?_getD]
        rw [List.getElem?_append_left hk]
      rw [this]
      exact ih (by omega)
theorem ordA_eq (p : List Int) (k : Nat) : ordA p k = if atP p k = 0 then -1 else if frP p k < 0 then cntP p k else (ordL p k).getD (frP p k).toNat 0 := by
  have hk : (ordL p k).length = k := ordL_len p k
  unfold ordA
  simp only [ordL, List.getD_eq_getElem?_getD]
  rw [List.getElem?_append_right (by omega), hk, Nat.sub_self]
  rfl
theorem ord_none {k : Nat} (h : atP p k = 0) : ordA p k = -1 := by rw [ordA_eq, if_pos h]
theorem ord_new {k : Nat} (h : atP p k ≠ 0) (hf : frP p k < 0) : ordA p k = cntP p k := by rw [ordA_eq, if_neg h, if_pos hf]
theorem ord_old (hv : validP p = true) {k : Nat} (h : atP p k ≠ 0) (hf : 0 ≤ frP p k) : ordA p k = ordA p (frP p k).toNat := by
  have := fr_lt hv h
  rw [ordA_eq, if_neg h, if_neg (by omega), ordL_get p (by omega)]
theorem at_from (hv : validP p = true) {k : Nat} (h : atP p k ≠ 0) : atP p (frP p k) ≠ 0 := by
  have h1 := at_fr hv k
  have h2 := fr_lt hv h
  omega
theorem ord_bd (hv : validP p = true) (k : Nat) : (atP p k ≠ 0 → 0 ≤ ordA p k ∧ ordA p k < cntP p (k + 1)) := by
  induction k using Nat.strongRecOn with
  | _ k ih =>
    intro h
    by_cases hf : frP p k < 0
    · rw [ord_new h hf, cntP_succ, if_pos hf]
      have := cntP_nonneg p k
      omega
    · have hl := fr_lt hv h
      have ha := at_from hv h
      have e : (((frP p k).toNat : Nat) : Int) = frP p k := by omega
      rw [ord_old hv h (by omega)]
      have := ih (frP p k).toNat (by omega) (by rw [e]; exact ha)
      have h2 := cntP_mono p (show (frP p k).toNat + 1 ≤ k + 1 by omega)
      omega
theorem ord_lt (hv : validP p = true) {k : Nat} (h : atP p k ≠ 0) : 0 ≤ ordA p k ∧ ordA p k < propsP p := by
  have h1 := ord_bd hv k h
  have h2 := cntP_le hv (k + 1)
  omega
/-- between a throw and its landing the prop is not thrown -/
theorem ord_gap (hv : validP p = true) (x : Nat) : ∀ c : Nat, atP p c ≠ 0 → atP p x ≠ 0 → c < x → (x : Int) < c + atP p c → ordA p x ≠ ordA p c := by
  induction x using Nat.strongRecOn with
  | _ x ih =>
    intro c hc hx hcx hlt heq
    by_cases hf : frP p x < 0
    · have h1 := (ord_bd hv c hc).2
      have h2 := cntP_mono p (show c + 1 ≤ x by omega)
      rw [ord_new hx hf] at heq
      omega
    · have hl := fr_lt hv hx
      have ha := at_from hv hx
      have e : (((frP p x).toNat : Nat) : Int) = frP p x := by omega
      have h3 := at_fr hv x
      rw [ord_old hv hx (by omega)] at heq
      have hne : (frP p x).toNat ≠ c := fun e2 => by
        have : frP p x = c := by omega
        rw [this] at h3
        omega
      rcases Nat.lt_or_gt_of_ne hne with h4 | h4
      · exact ih c hcx (frP p x).toNat (by rw [e]; exact ha) hc h4 (by rw [e, h3]; omega) heq.symm
      · exact ih (frP p x).toNat (by omega) c hc (by rw [e]; exact ha) h4 (by omega) heq
/-- two beats of one prop: the later one's throw came from the earlier one or from behind it -/
theorem ord_same (hv : validP p = true) {b c : Nat} (hb : atP p b ≠ 0) (hc : atP p c ≠ 0) (hcb : c < b) (he : ordA p b = ordA p c) : (c : Int) ≤ frP p b := by
  by_cases hf : frP p b < 0
  · have h1 := (ord_bd hv c hc).2
    have h2 := cntP_mono p (show c + 1 ≤ b by omega)
    rw [ord_new hb hf] at he
    omega
  · have hl := fr_lt hv hb
    have ha := at_from hv hb
    have e : (((frP p b).toNat : Nat) : Int) = frP p b := by omega
    have h3 := at_fr hv b
    rcases Int.lt_or_le (frP p b) c with h4 | h4
    · exfalso
      rw [ord_old hv hb (by omega)] at he
      exact ord_gap hv c (frP p b).toNat (by rw [e]; exact ha) hc (by omega) (by rw [e, h3]; omega) he.symm
    · exact h4
/-- the beats from f on, at which a prop is thrown that was thrown before f: the next throw of each prop -/
def nxB (p : List Int) (f b : Nat) : Bool := decide (frP p b < f)
theorem nx_at (hv : validP p = true) {f b : Nat} (hfb : f ≤ b) (h : nxB p f b = true) : atP p b ≠ 0 := by
  have h1 := of_decide_eq_true h
  intro e
  have := (fr_self hv b).1 e
  omega
theorem nx_inj (hv : validP p = true) {f b c : Nat} (hfb : f ≤ b) (hfc : f ≤ c) (h1 : nxB p f b = true) (h2 : nxB p f c = true) (he : ordA p b = ordA p c) : b = c := by
  have ab := nx_at hv hfb h1
  have ac := nx_at hv hfc h2
  have d1 := of_decide_eq_true h1
  have d2 := of_decide_eq_true h2
  rcases Nat.lt_trichotomy b c with h | h | h
  · have := ord_same hv ac ab h he.symm
    omega
  · exact h
  · have := ord_same hv ab ac h he
    omega
/-- a beat of a prop that is not its next throw has an earlier one -/
theorem nx_back (hv : validP p = true) {f b : Nat} (hfb : f ≤ b) (hb : atP p b ≠ 0) (h : nxB p f b = false) : ∃ c : Nat, f ≤ c ∧ c < b ∧ atP p c ≠ 0 ∧ ordA p c = ordA p b := by
  have h1 := of_decide_eq_false h
  have hl := fr_lt hv hb
  have ha := at_from hv hb
  have e : (((frP p b).toNat : Nat) : Int) = frP p b := by omega
  exact ⟨(frP p b).toNat, by omega, by omega, by rw [e]; exact ha, (ord_old hv hb (by omega)).symm⟩
theorem nx_first (hv : validP p = true) {f b c : Nat} (hfc : f ≤ c) (hcb : c < b) (hc : atP p c ≠ 0) (hb : nxB p f b = true) (hb0 : f ≤ b) : ordA p c ≠ ordA p b := by
  intro he
  have h1 := ord_same hv (nx_at hv hb0 hb) hc hcb he.symm
  have h2 := of_decide_eq_true hb
  omega
end
end Go.Proofs.YtgcmnpimkfmccaaDoor
