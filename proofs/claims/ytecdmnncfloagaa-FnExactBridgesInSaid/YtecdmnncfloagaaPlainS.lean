/- Plain lemmas: the state of a pattern before a beat, and how many props it has. No program. -/
import Derived.Test.YtecdmnncfloagaaPlainC
namespace Go.Proofs.Ytecdmnncfloagaa
def sumN (f : Nat → Int) : Nat → Int
  | 0 => 0
  | k + 1 => sumN f k + f k
theorem sumN_congr {f g : Nat → Int} : ∀ {n : Nat}, (∀ i, i < n → f i = g i) → sumN f n = sumN g n := by
  intro n
  induction n with
  | zero => intro _; rfl
  | succ n ih => intro h; simp only [sumN]; rw [ih (fun i hi => h i (by omega)), h n (by omega)]
theorem sumN_add (f g : Nat → Int) : ∀ n, sumN (fun i => f i + g i) n = sumN f n + sumN g n := by
  intro n
  induction n with
  | zero => rfl
  | succ n ih => simp only [sumN]; rw [ih]; omega
theorem sumN_sub (f g : Nat → Int) : ∀ n, sumN (fun i => f i - g i) n = sumN f n - sumN g n := by
  intro n
  induction n with
  | zero => rfl
  | succ n ih => simp only [sumN]; rw [ih]; omega
theorem sumN_mul (c : Int) (f : Nat → Int) : ∀ n, sumN (fun i => c * f i) n = c * sumN f n := by
  intro n
  induction n with
  | zero => simp [sumN]
  | succ n ih => simp only [sumN]; rw [ih, Int.mul_add]
theorem sumN_zero (n : Nat) : sumN (fun _ => 0) n = 0 := by
  induction n with
  | zero => rfl
  | succ n ih => simp only [sumN]; rw [ih]; rfl
theorem sumN_one (n : Nat) : sumN (fun _ => 1) n = n := by
  induction n with
  | zero => rfl
  | succ n ih => simp only [sumN]; rw [ih]; simp
theorem sumN_swap (g : Nat → Nat → Int) (m : Nat) : ∀ n, sumN (fun i => sumN (g i) m) n = sumN (fun t => sumN (fun i => g i t) n) m := by
  intro n
  induction n with
  | zero => simp only [sumN]; rw [sumN_zero]
  | succ n ih => simp only [sumN]; rw [ih, ← sumN_add]
theorem sumN_single {j : Nat} (v : Int) : ∀ {n : Nat}, sumN (fun i => if i = j then v else 0) n = if j < n then v else 0 := by
  intro n
  induction n with
  | zero => simp [sumN]
  | succ n ih =>
    simp only [sumN]
    rw [ih]
    by_cases h1 : j < n
    · rw [if_pos h1, if_neg (by omega), if_pos (by omega)]; omega
    · by_cases h2 : n = j
      · rw [if_neg h1, if_pos h2, if_pos (by omega)]; omega
      · rw [if_neg h1, if_neg h2, if_neg (by omega)]; rfl
theorem sumN_le {f g : Nat → Int} : ∀ {n : Nat}, (∀ i, i < n → f i ≤ g i) → sumN f n ≤ sumN g n := by
  intro n
  induction n with
  | zero => intro _; exact Int.le_refl _
  | succ n ih => intro h; simp only [sumN]; have := ih (fun i hi => h i (by omega)); have := h n (by omega); omega
theorem sumN_tight {f g : Nat → Int} : ∀ {n : Nat}, (∀ i, i < n → f i ≤ g i) → sumN f n = sumN g n → ∀ i, i < n → f i = g i := by
  intro n
  induction n with
  | zero => intro _ _ i hi; omega
  | succ n ih =>
    intro h he i hi
    simp only [sumN] at he
    have h1 := sumN_le (f := f) (g := g) (n := n) (fun i hi => h i (by omega))
    have h2 := h n (by omega)
    by_cases e : i = n
    · subst e; omega
    · exact ih (fun i hi => h i (by omega)) (by omega) i (by omega)
/-- a map of 0 .. n-1 into itself that is one to one takes every number once -/
theorem hits_one {n : Nat} {f : Nat → Nat} (hf : ∀ i, i < n → f i < n) (hi : ∀ i j, i < n → j < n → f i = f j → i = j) : ∀ v, v < n → sumN (fun i => if f i = v then 1 else 0) n = 1 := by
  have hle : ∀ (m : Nat), m ≤ n → ∀ v, sumN (fun i => if f i = v then 1 else 0) m ≤ 1 ∧ ((∀ i, i < m → f i ≠ v) → sumN (fun i => if f i = v then 1 else 0) m = 0) := by
    intro m
    induction m with
    | zero => intro _ v; exact ⟨by simp [sumN], fun _ => rfl⟩
    | succ m ih =>
      intro hm v
      obtain ⟨h1, h2⟩ := ih (by omega) v
      simp only [sumN]
      by_cases hv : f m = v
      · have h0 := h2 (fun i him e => by have := hi i m (by omega) (by omega) (e.trans hv.symm); omega)
        rw [h0, if_pos hv]
        exact ⟨by omega, fun hne => absurd hv (hne m (by omega))⟩
      · rw [if_neg hv]
        exact ⟨by omega, fun hne => by rw [h2 (fun i him => hne i (by omega))]; rfl⟩
  refine sumN_tight (f := fun v => sumN (fun i => if f i = v then 1 else 0) n) (g := fun _ => 1) (fun v _ => (hle n (Nat.le_refl _) v).1) ?_
  rw [← sumN_swap (fun i v => if f i = v then 1 else 0) n n, sumN_one]
  have : sumN (fun i => sumN (fun v => if f i = v then 1 else 0) n) n = sumN (fun _ => 1) n := sumN_congr fun i hin => by
    have e : sumN (fun v => if f i = v then (1 : Int) else 0) n = sumN (fun v => if v = f i then 1 else 0) n := sumN_congr fun v _ => by
      by_cases h : f i = v
      · rw [if_pos h, if_pos h.symm]
      · rw [if_neg h, if_neg (fun e => h e.symm)]
    rw [e, sumN_single, if_pos (hf i hin)]
  rw [this, sumN_one]
theorem onto_of {n : Nat} {f : Nat → Nat} (hf : ∀ i, i < n → f i < n) (hi : ∀ i j, i < n → j < n → f i = f j → i = j) {v : Nat} (hv : v < n) : ∃ i, i < n ∧ f i = v := by
  by_cases hx : ∃ i, i < n ∧ f i = v
  · exact hx
  · have h1 := hits_one hf hi v hv
    have h2 : sumN (fun i => if f i = v then (1 : Int) else 0) n = sumN (fun _ => 0) n := sumN_congr fun i hin => if_neg fun e => hx ⟨i, hin, e⟩
    rw [h2, sumN_zero] at h1
    omega
theorem perm_sum {n : Nat} {f : Nat → Nat} (hf : ∀ i, i < n → f i < n) (hi : ∀ i j, i < n → j < n → f i = f j → i = j) : sumN (fun i => (f i : Int)) n = sumN (fun i => (i : Int)) n := by
  have h1 : sumN (fun i => (f i : Int)) n = sumN (fun i => sumN (fun v => if v = f i then (v : Int) else 0) n) n := sumN_congr fun i hin => by
    have e : sumN (fun v => if v = f i then (v : Int) else 0) n = sumN (fun v => if v = f i then (f i : Int) else 0) n := sumN_congr fun v _ => by
      by_cases h : v = f i
      · rw [if_pos h, if_pos h, h]
      · rw [if_neg h, if_neg h]
    rw [e, sumN_single, if_pos (hf i hin)]
  rw [h1, sumN_swap (fun i v => if v = f i then (v : Int) else 0) n n]
  refine sumN_congr fun v hv => ?_
  have e : sumN (fun i => if v = f i then (v : Int) else 0) n = sumN (fun i => (v : Int) * (if f i = v then 1 else 0)) n := sumN_congr fun i _ => by
    by_cases h : f i = v
    · rw [if_pos h.symm, if_pos h, Int.mul_one]
    · rw [if_neg (fun e => h e.symm), if_neg h, Int.mul_zero]
  rw [e, sumN_mul, hits_one hf hi v hv, Int.mul_one]
/-- how many numbers below P have a remainder -/
theorem cnt_mod {n s : Nat} (hn : 0 < n) (hs : s < n) : ∀ P, sumN (fun t => if t % n = s then 1 else 0) P = (((P + n - 1 - s) / n : Nat) : Int) := by
  intro P
  induction P with
  | zero =>
    simp only [sumN]
    rw [Nat.div_eq_of_lt (by omega)]
    rfl
  | succ P ih =>
    simp only [sumN]
    rw [ih]
    have e : P + 1 + n - 1 - s = (P + n - 1 - s) + 1 := by omega
    rw [e, Nat.succ_div]
    have hd : (n ∣ P + n - 1 - s + 1) ↔ P % n = s := by
      have e2 : P + n - 1 - s + 1 = P + (n - s) := by omega
      rw [e2, Nat.dvd_iff_mod_eq_zero, Nat.add_mod]
      have h1 := Nat.mod_lt P hn
      by_cases h0 : s = 0
      · subst h0
        rw [Nat.sub_zero, Nat.mod_self, Nat.add_zero, Nat.mod_mod]
      · rw [Nat.mod_eq_of_lt (show n - s < n by omega)]
        constructor
        · intro h
          rcases Nat.lt_or_ge (P % n + (n - s)) n with h2 | h2
          · rw [Nat.mod_eq_of_lt h2] at h; omega
          · rw [Nat.mod_eq_sub_mod h2, Nat.mod_eq_of_lt (by omega)] at h; omega
        · intro h
          have : P % n + (n - s) = n := by omega
          rw [this, Nat.mod_self]
    by_cases hx : P % n = s
    · rw [if_pos hx, if_pos (hd.2 hx)]; omega
    · rw [if_neg hx, if_neg (fun h => hx (hd.1 h))]; omega
theorem cnt_land {n a P : Nat} (ha : a < n) : sumN (fun t => if t % n = (a + P) % n then 1 else 0) P = (((a + P) / n : Nat) : Int) := by
  have hn : 0 < n := by omega
  rw [cnt_mod hn (Nat.mod_lt _ hn)]
  congr 1
  have h1 := Nat.div_add_mod (a + P) n
  have h2 := Nat.mod_lt (a + P) hn
  generalize (a + P) / n = q at *
  generalize (a + P) % n = r at *
  have e : P + n - 1 - r = n * q + (n - 1 - a) := by omega
  rw [e, Nat.mul_add_div hn, Nat.div_eq_of_lt (by omega)]
  rfl
end Go.Proofs.Ytecdmnncfloagaa
