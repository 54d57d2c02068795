/- Plain lemmas: the state of a pattern before a beat has as many props as the pattern. No program. -/
import Derived.Test.YtecdmnncfloagaaPlainS
namespace Go.Proofs.Ytecdmnncfloagaa
theorem emod_iff (n x y : Int) : x % n = y % n ↔ n ∣ x - y := by
  rw [Int.emod_eq_emod_iff_emod_sub_eq_zero]
  exact ⟨Int.dvd_of_emod_eq_zero, Int.emod_eq_zero_of_dvd⟩
theorem dvd_small {n x : Int} (hn : 0 < n) (h : n ∣ x) (h1 : -n < x) (h2 : x < n) : x = 0 := by
  obtain ⟨k, rfl⟩ := h
  have h3 : k = 0 := by
    have a1 : n * k < n * 1 := by rw [Int.mul_one]; exact h2
    have a2 : n * (-1) < n * k := by rw [Int.mul_neg, Int.mul_one]; exact h1
    have b1 := Int.lt_of_mul_lt_mul_left a1 (Int.le_of_lt hn)
    have b2 := Int.lt_of_mul_lt_mul_left a2 (Int.le_of_lt hn)
    omega
  rw [h3, Int.mul_zero]
theorem validP_iff {p : List Int} : validP p = true ↔ ((∀ x ∈ p, 0 ≤ x ∧ x ≤ 15) ∧ (1 ≤ p.length ∧ p.length ≤ 12)) ∧ clashFree (landL p) := by
  unfold validP
  rw [Bool.and_eq_true, okThrows_iff, clashB_iff]
def liN (p : List Int) (r : Int) : Nat := (landL p).idxOf r
section
variable {p : List Int}
theorem at_mem {i : Nat} (hi : i < p.length) : p.getD i 0 ∈ p := getD_mem' hi
theorem land_bd (hv : validP p = true) (i : Nat) : 0 ≤ landAt p i ∧ landAt p i < p.length := by
  have h := (validP_iff.1 hv).1.2
  unfold landAt
  exact ⟨Int.emod_nonneg _ (by omega), Int.emod_lt_of_pos _ (by omega)⟩
theorem land_inj (hv : validP p = true) {i j : Nat} (hi : i < p.length) (hj : j < p.length) (h : landAt p i = landAt p j) : i = j := by
  have hc := (validP_iff.1 hv).2
  have hl : (landL p).length = p.length := by simp [landL]
  rcases Nat.lt_trichotomy i j with h1 | h1 | h1
  · exact absurd (by unfold landL; rw [landTo_get _ _ _ hi, landTo_get _ _ _ hj, h]) (hc j (by omega) i h1)
  · exact h1
  · exact absurd (by unfold landL; rw [landTo_get _ _ _ hi, landTo_get _ _ _ hj, h]) (hc i (by omega) j h1)
theorem land_onto (hv : validP p = true) {r : Int} (hr : 0 ≤ r ∧ r < p.length) : ∃ i, i < p.length ∧ landAt p i = r := by
  obtain ⟨i, hi, he⟩ := onto_of (n := p.length) (f := fun i => (landAt p i).toNat) (fun i _ => by have := land_bd hv i; omega)
    (fun i j hi hj h => by have h1 := land_bd hv i; have h2 := land_bd hv j; exact land_inj hv hi hj (by omega)) (v := r.toNat) (by omega)
  have := land_bd hv i
  exact ⟨i, hi, by omega⟩
theorem li_ok (hv : validP p = true) {r : Int} (hr : 0 ≤ r ∧ r < p.length) : liN p r < p.length ∧ landAt p (liN p r) = r := by
  obtain ⟨i, hi, he⟩ := land_onto hv hr
  have hl : (landL p).length = p.length := by simp [landL]
  have hm : r ∈ landL p := by
    unfold landL landTo
    exact List.mem_map.2 ⟨i, List.mem_range.2 hi, he⟩
  have h1 : liN p r < (landL p).length := List.idxOf_lt_length_of_mem hm
  have h2 : (landL p)[liN p r] = r := List.getElem_idxOf h1
  rw [hl] at h1
  refine ⟨h1, ?_⟩
  have h3 := landTo_get p p.length (liN p r) h1
  rw [← h3]
  have h4 : (landL p).getD (liN p r) 0 = (landL p)[liN p r] := by simp [List.getD, hl, h1]
  unfold landL at h4 h2
  rw [h4]
  exact h2
theorem li_uniq (hv : validP p = true) {r : Int} {k : Nat} (hk : k < p.length) (h : landAt p k = r) : liN p r = k := by
  have hr : 0 ≤ r ∧ r < p.length := by rw [← h]; exact land_bd hv k
  have := li_ok hv hr
  exact land_inj hv this.1 hk (by rw [this.2, h])
/-- does a prop land t beats after beat b that was thrown before b? -/
def stB (p : List Int) (b : Int) (t : Nat) : Bool := decide ((t : Int) < p.getD (liN p ((b + t) % (p.length : Int))) 0)
def stTo (p : List Int) (b : Int) : Nat → Int
  | 0 => 0
  | k + 1 => bif stB p b k then (((stTo p b k).toNat ||| 2 ^ k : Nat) : Int) else stTo p b k
theorem stTo_succ (p : List Int) (b : Int) (k : Nat) : stTo p b (k + 1) = bif stB p b k then (((stTo p b k).toNat ||| 2 ^ k : Nat) : Int) else stTo p b k := rfl
def stM (p : List Int) (b h : Int) : Int := stTo p b h.toNat
theorem stTo_bd (p : List Int) (b : Int) : ∀ k, 0 ≤ stTo p b k ∧ stTo p b k < ((2 ^ k : Nat) : Int) := by
  intro k
  induction k with
  | zero => simp [stTo]
  | succ k ih =>
    have h2 : 2 ^ (k + 1) = 2 ^ k + 2 ^ k := by rw [Nat.pow_succ]; omega
    unfold stTo
    cases stB p b k
    · rw [cond_false]; omega
    · rw [cond_true]
      have h3 : (stTo p b k).toNat < 2 ^ (k + 1) := by omega
      have h4 := Nat.or_lt_two_pow h3 (show 2 ^ k < 2 ^ (k + 1) by omega)
      exact ⟨Int.natCast_nonneg _, Int.ofNat_lt.2 h4⟩
theorem stTo_pop (p : List Int) (b : Int) : ∀ k, k ≤ 10 → popI (stTo p b k) = sumN (fun t => if stB p b t = true then 1 else 0) k := by
  intro k
  induction k with
  | zero => intro _; show popI 0 = 0; decide
  | succ k ih =>
    intro hk
    have hb := stTo_bd p b k
    simp only [sumN]
    rw [← ih (by omega), stTo_succ]
    cases hs : stB p b k
    · rw [cond_false]; simp
    · rw [cond_true, if_pos rfl]
      have e : (((stTo p b k).toNat : Nat) : Int) = stTo p b k := by omega
      have hbit : bitB (((stTo p b k).toNat : Nat) : Int) k = false := by
        rw [e]
        exact bit_high hb.1 (j := k) (by have := hb.2; simpa using this) (Nat.le_refl _)
      have := popTo_or (stTo p b k).toNat k 10 hbit
      unfold popI
      rw [this, e, if_pos (by omega)]
theorem stM_bd (p : List Int) (b h : Int) : 0 ≤ stM p b h ∧ stM p b h < 2 ^ h.toNat := by
  have := stTo_bd p b h.toNat
  unfold stM
  simpa using this
theorem sumN_cut {f : Nat → Int} {m : Nat} (hz : ∀ t, m ≤ t → f t = 0) : ∀ {n : Nat}, m ≤ n → sumN f n = sumN f m := by
  intro n
  induction n with
  | zero => intro h; obtain rfl : m = 0 := by omega
            rfl
  | succ n ih =>
    intro h
    by_cases e : m = n + 1
    · subst e; rfl
    · simp only [sumN]
      rw [ih (by omega), hz n (by omega), Int.add_zero]
theorem sumN_get (p : List Int) : ∀ k, k ≤ p.length → sumN (fun i => p.getD i 0) k = (p.take k).sum := by
  intro k
  induction k with
  | zero => intro _; simp [sumN]
  | succ k ih =>
    intro hk
    simp only [sumN]
    rw [ih (by omega), take_snoc _ _ (by omega), List.sum_append]
    simp [List.getD, show k < p.length by omega]
/-- the number of the index i, counted from beat b on -/
def offN (n : Nat) (b : Int) (i : Nat) : Nat := (((i : Int) - b) % (n : Int)).toNat
theorem offN_eq {n : Nat} (hn : 0 < n) (b : Int) (i : Nat) : ((offN n b i : Nat) : Int) = ((i : Int) - b) % (n : Int) := by
  have := Int.emod_nonneg ((i : Int) - b) (show (n : Int) ≠ 0 by omega)
  unfold offN
  omega
theorem offN_lt {n : Nat} (hn : 0 < n) (b : Int) (i : Nat) : offN n b i < n := by
  have h1 := offN_eq hn b i
  have h2 := Int.emod_lt_of_pos ((i : Int) - b) (show (0 : Int) < n by omega)
  omega
theorem off_dvd {n : Nat} (hn : 0 < n) (b : Int) (i : Nat) : (n : Int) ∣ ((offN n b i : Nat) : Int) - ((i : Int) - b) := by
  rw [offN_eq hn]
  exact (emod_iff _ _ _).1 (Int.emod_emod_of_dvd _ (Int.dvd_refl _))
theorem land_iff (hv : validP p = true) (b : Int) (i t : Nat) (hi : i < p.length) : landAt p i = (b + t) % (p.length : Int) ↔ t % p.length = (offN p.length b i + (p.getD i 0).toNat) % p.length := by
  have hn : 0 < p.length := by have := (validP_iff.1 hv).1.2; omega
  have hp := (validP_iff.1 hv).1.1 _ (at_mem hi)
  have e1 : (t % p.length = (offN p.length b i + (p.getD i 0).toNat) % p.length) ↔ ((t : Int) % (p.length : Int) = (((offN p.length b i : Nat) : Int) + p.getD i 0) % (p.length : Int)) := by
    have e2 : ((offN p.length b i : Nat) : Int) + p.getD i 0 = ((offN p.length b i + (p.getD i 0).toNat : Nat) : Int) := by omega
    rw [e2]
    constructor
    · intro h; exact_mod_cast h
    · intro h; exact_mod_cast h
  rw [e1]
  unfold landAt
  rw [emod_iff, emod_iff]
  have hd := off_dvd hn b i
  generalize ((offN p.length b i : Nat) : Int) = a at *
  generalize p.getD i 0 = P at *
  constructor
  · intro h
    have h1 := Int.dvd_neg.2 (Int.dvd_add h hd)
    have e : -((i : Int) + P - (b + t) + (a - ((i : Int) - b))) = (t : Int) - (a + P) := by omega
    rwa [e] at h1
  · intro h
    have h1 := Int.dvd_neg.2 (Int.dvd_add h hd)
    have e : -((t : Int) - (a + P) + (a - ((i : Int) - b))) = (i : Int) + P - (b + t) := by omega
    rwa [e] at h1
theorem stM_sum (hv : validP p = true) (b : Int) {H : Nat} (hp : ∀ x ∈ p, x ≤ H) : (p.length : Int) * sumN (fun t => if stB p b t = true then 1 else 0) H = p.sum := by
  have hv' := validP_iff.1 hv
  have hn : 0 < p.length := by have := hv'.1.2; omega
  have hst : ∀ t, t < H → (if stB p b t = true then (1 : Int) else 0) = sumN (fun i => if landAt p i = (b + t) % (p.length : Int) ∧ (t : Int) < p.getD i 0 then 1 else 0) p.length := fun t _ => by
    have hr : 0 ≤ (b + t) % (p.length : Int) ∧ (b + t) % (p.length : Int) < p.length := ⟨Int.emod_nonneg _ (by omega), Int.emod_lt_of_pos _ (by omega)⟩
    obtain ⟨h1, h2⟩ := li_ok hv hr
    have e : sumN (fun i => if landAt p i = (b + t) % (p.length : Int) ∧ (t : Int) < p.getD i 0 then (1 : Int) else 0) p.length = sumN (fun i => if i = liN p ((b + t) % (p.length : Int)) then (if stB p b t = true then 1 else 0) else 0) p.length := sumN_congr fun i hi => by
      by_cases hli : i = liN p ((b + t) % (p.length : Int))
      · rw [if_pos hli]
        unfold stB
        rw [hli]
        by_cases hlt : (t : Int) < p.getD (liN p ((b + t) % (p.length : Int))) 0
        · rw [if_pos ⟨h2, hlt⟩]; simp only [hlt, decide_true, if_true]
        · rw [if_neg (fun e => hlt e.2)]; simp only [hlt, decide_false]; rfl
      · rw [if_neg hli, if_neg (fun e => hli (li_uniq hv hi e.1).symm)]
    rw [e, sumN_single, if_pos h1]
  rw [sumN_congr hst, sumN_swap (fun t i => if landAt p i = (b + t) % (p.length : Int) ∧ (t : Int) < p.getD i 0 then 1 else 0) p.length H]
  have hin : ∀ i, i < p.length → sumN (fun t => if landAt p i = (b + (t : Nat)) % (p.length : Int) ∧ (t : Int) < p.getD i 0 then (1 : Int) else 0) H = (((offN p.length b i + (p.getD i 0).toNat) / p.length : Nat) : Int) := fun i hi => by
    have hb := hv'.1.1 _ (at_mem hi)
    have hH := hp _ (at_mem hi)
    rw [sumN_cut (m := (p.getD i 0).toNat) (fun t ht => if_neg (fun e => by have := e.2; omega)) (by omega), ← cnt_land (offN_lt hn b i)]
    refine sumN_congr fun t ht => ?_
    have := land_iff hv b i t hi
    by_cases hx : landAt p i = (b + (t : Nat)) % (p.length : Int)
    · rw [if_pos ⟨hx, by omega⟩, if_pos (this.1 hx)]
    · rw [if_neg (fun e => hx e.1), if_neg (fun e => hx (this.2 e))]
  rw [sumN_congr hin, ← sumN_mul]
  have he : ∀ i, i < p.length → (p.length : Int) * (((offN p.length b i + (p.getD i 0).toNat) / p.length : Nat) : Int) = (((offN p.length b i : Nat) : Int) + p.getD i 0) - (((offN p.length b i + (p.getD i 0).toNat) % p.length : Nat) : Int) := fun i hi => by
    have hb := hv'.1.1 _ (at_mem hi)
    have h1 := Nat.div_add_mod (offN p.length b i + (p.getD i 0).toNat) p.length
    have h2 : ((p.length * ((offN p.length b i + (p.getD i 0).toNat) / p.length) : Nat) : Int) = (p.length : Int) * (((offN p.length b i + (p.getD i 0).toNat) / p.length : Nat) : Int) := by simp
    rw [← h2]
    omega
  rw [sumN_congr he, sumN_sub, sumN_add]
  have hoi : ∀ i j, i < p.length → j < p.length → offN p.length b i = offN p.length b j → i = j := fun i j hi hj h => by
    have h1 := off_dvd hn b i
    have h2 := off_dvd hn b j
    rw [h] at h1
    have h3 := Int.dvd_sub h2 h1
    have e : ((offN p.length b j : Nat) : Int) - ((j : Int) - b) - (((offN p.length b j : Nat) : Int) - ((i : Int) - b)) = (i : Int) - j := by omega
    rw [e] at h3
    have := dvd_small (by omega) h3 (by omega) (by omega)
    omega
  have hri : ∀ i j, i < p.length → j < p.length → (offN p.length b i + (p.getD i 0).toNat) % p.length = (offN p.length b j + (p.getD j 0).toNat) % p.length → i = j := fun i j hi hj h => by
    have hm := Nat.mod_lt (offN p.length b i + (p.getD i 0).toNat) hn
    obtain ⟨t, ht⟩ : ∃ t, t = (offN p.length b i + (p.getD i 0).toNat) % p.length := ⟨_, rfl⟩
    have ht2 : t % p.length = t := Nat.mod_eq_of_lt (by omega)
    have h1 := (land_iff hv b i t hi).2 (by rw [ht2, ht])
    have h2 := (land_iff hv b j t hj).2 (by rw [ht2, ht, h])
    exact land_inj hv hi hj (h1.trans h2.symm)
  rw [perm_sum (f := fun i => offN p.length b i) (fun i _ => offN_lt hn b i) hoi, perm_sum (f := fun i => (offN p.length b i + (p.getD i 0).toNat) % p.length) (fun i _ => Nat.mod_lt _ hn) hri, sumN_get p _ (Nat.le_refl _), List.take_length]
  omega
/-- the number of props -/
def propsP (p : List Int) : Int := p.sum / (p.length : Int)
theorem stM_pop (hv : validP p = true) (b : Int) {h : Int} (hh : 1 ≤ h ∧ h ≤ 10) (hp : ∀ x ∈ p, x ≤ h) : popI (stM p b h) = propsP p := by
  have h1 := stM_sum hv b (H := h.toNat) (fun x hx => by have := hp x hx; omega)
  have h2 := stTo_pop p b h.toNat (by omega)
  have hn : 0 < p.length := by have := (validP_iff.1 hv).1.2; omega
  unfold stM propsP
  rw [h2, ← h1, Int.mul_comm, Int.mul_ediv_cancel _ (by omega)]
theorem stM_mem (hv : validP p = true) (b : Int) {h : Int} (hh : 1 ≤ h ∧ h ≤ 10) (hp : ∀ x ∈ p, x ≤ h) : stM p b h ∈ maskL (propsP p) h := mem_maskL.2 ⟨stM_bd p b h, stM_pop hv b hh hp⟩
theorem props_bd (hv : validP p = true) {h : Int} (hh : 1 ≤ h ∧ h ≤ 10) (hp : ∀ x ∈ p, x ≤ h) : 0 ≤ propsP p ∧ propsP p ≤ h := by
  have h1 := stM_pop hv 0 hh hp
  have h2 := popTo_bd (stM p 0 h) h.toNat
  have h3 := popTo_all (stM_bd p 0 h).1 (j := h.toNat) (stM_bd p 0 h).2 (by omega)
  rw [← h1, ← h3]
  omega
end
theorem pop_ground : ∀ k : Nat, k ≤ 10 → popI (2 ^ k - 1 : Int) = k := by
  intro k hk
  have : k = 0 ∨ k = 1 ∨ k = 2 ∨ k = 3 ∨ k = 4 ∨ k = 5 ∨ k = 6 ∨ k = 7 ∨ k = 8 ∨ k = 9 ∨ k = 10 := by omega
  rcases this with rfl | rfl | rfl | rfl | rfl | rfl | rfl | rfl | rfl | rfl | rfl <;> decide
def groundI (n : Int) : Int := 2 ^ n.toNat - 1
theorem ground_mem {n h : Int} (hh : 1 ≤ h ∧ h ≤ 10) (hn : 0 ≤ n ∧ n ≤ h) : groundI n ∈ maskL n h := by
  have h1 : (1 : Int) ≤ 2 ^ n.toNat := pow_pos_int _
  have h2 : (2 : Nat) ^ n.toNat ≤ 2 ^ h.toNat := Nat.pow_le_pow_right (by omega) (by omega)
  have h3 : (2 : Int) ^ n.toNat ≤ 2 ^ h.toNat := by exact_mod_cast h2
  have h4 := pop_ground n.toNat (by omega)
  unfold groundI
  exact mem_maskL.2 ⟨by omega, by rw [h4]; omega⟩
end Go.Proofs.Ytecdmnncfloagaa
