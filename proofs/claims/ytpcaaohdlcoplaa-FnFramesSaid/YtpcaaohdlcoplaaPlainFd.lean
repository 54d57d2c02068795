/- PlainFd, PlainFh, PlainFc: laid one behind the other. -/
import Derived.Test.YtpcaaohdlcoplaaFrC
import Derived.Test.YtpcaaohdlcoplaaFrM
import Derived.Test.YtpcaaohdlcoplaaFrI
import Derived.Test.YtpcaaohdlcoplaaFrF
section
set_option linter.unusedVariables false
namespace Go.Proofs.Ytpcaaohdlcoplaa
theorem fra_parts (n : Int) {d : Int} (hd : 0 < d) : ∃ g : Int, 0 < g ∧ fraN n d * g = n ∧ fraD n d * g = d := by
  have hg := (gcP_pos n hd).1
  refine ⟨gcP n d, hg, ?_, ?_⟩
  · unfold fraN
    refine Int.tdiv_mul_cancel ?_
    unfold gcP
    exact Int.ofNat_dvd_left.2 (Nat.gcd_dvd_left _ _)
  · unfold fraD
    refine Int.tdiv_mul_cancel ?_
    unfold gcP
    refine Int.ofNat_dvd_left.2 ?_
    have : d.natAbs = d.toNat := by omega
    rw [this]
    exact Nat.gcd_dvd_right _ _
theorem fra_pos (n : Int) {d : Int} (hd : 0 < d) : 1 ≤ fraD n d := by
  obtain ⟨g, hg, -, h2⟩ := fra_parts n hd
  rcases Int.lt_or_le 0 (fraD n d) with h | h
  · omega
  · have := Int.mul_nonneg_of_nonpos_of_nonpos h (show -g ≤ 0 by omega)
    rw [Int.mul_neg, h2] at this
    omega
theorem fra_le {n d c : Int} (hd : 0 < d) (h : n ≤ c * d) : fraN n d ≤ c * fraD n d := by
  obtain ⟨g, hg, h1, h2⟩ := fra_parts n hd
  refine Int.le_of_mul_le_mul_right ?_ hg
  rw [h1, Int.mul_assoc, h2]
  exact h
theorem fra_ge {n d c : Int} (hd : 0 < d) (h : c * d ≤ n) : c * fraD n d ≤ fraN n d := by
  obtain ⟨g, hg, h1, h2⟩ := fra_parts n hd
  refine Int.le_of_mul_le_mul_right ?_ hg
  rw [h1, Int.mul_assoc, h2]
  exact h
theorem along_le {x1 x2 t1 t2 t M : Int} (h1 : x1 ≤ M) (h2 : x2 ≤ M) (ha : t1 ≤ t) (hb : t ≤ t2) : alongP x1 x2 t1 t2 t ≤ M * (t2 - t1) := by
  have e1 := Int.mul_le_mul_of_nonneg_right h1 (show 0 ≤ t2 - t by omega)
  have e2 := Int.mul_le_mul_of_nonneg_right h2 (show 0 ≤ t - t1 by omega)
  have e3 : M * (t2 - t1) = M * (t2 - t) + M * (t - t1) := by rw [← Int.mul_add]; congr 1; omega
  unfold alongP
  omega
theorem along_ge {x1 x2 t1 t2 t M : Int} (h1 : M ≤ x1) (h2 : M ≤ x2) (ha : t1 ≤ t) (hb : t ≤ t2) : M * (t2 - t1) ≤ alongP x1 x2 t1 t2 t := by
  have e1 := Int.mul_le_mul_of_nonneg_right h1 (show 0 ≤ t2 - t by omega)
  have e2 := Int.mul_le_mul_of_nonneg_right h2 (show 0 ≤ t - t1 by omega)
  have e3 : M * (t2 - t1) = M * (t2 - t) + M * (t - t1) := by rw [← Int.mul_add]; congr 1; omega
  unfold alongP
  omega
/-- what the law on frames asks of a dot -/
theorem dot_ok {p : List Int} {B D x t q b : Int} (hx : 0 ≤ x) (hD : 1 ≤ D) (h1 : frP p b * B ≤ t) (h2 : t < b * B) :
    (dotP p B D x t q b).1 = q ∧ (-1 ≤ (dotP p B D x t q b).2.1 ∧ (dotP p B D x t q b).2.1 ≤ 1) ∧ 1 ≤ (dotP p B D x t q b).2.2.2.1 ∧ (dotP p B D x t q b).2.2.1 ≤ 3 * x * (dotP p B D x t q b).2.2.2.1 ∧ -(3 * x) * (dotP p B D x t q b).2.2.2.1 ≤ (dotP p B D x t q b).2.2.1 ∧ 0 ≤ (dotP p B D x t q b).2.2.2.2 ∧
    (0 ≤ (dotP p B D x t q b).2.1 → (dotP p B D x t q b).2.2.2.2 = 0 ∧ ((dotP p B D x t q b).2.1 = 0 → (dotP p B D x t q b).2.2.1 ≤ -x * (dotP p B D x t q b).2.2.2.1) ∧ ((dotP p B D x t q b).2.1 = 1 → x * (dotP p B D x t q b).2.2.2.1 ≤ (dotP p B D x t q b).2.2.1)) := by
  have hb0 := Int.emod_nonneg b (show (2 : Int) ≠ 0 by decide)
  have hb1 := Int.emod_lt_of_pos b (show (0 : Int) < 2 by decide)
  have hs : ∀ h y : Int, 0 ≤ y → -y ≤ sideP h y ∧ sideP h y ≤ y := fun h y hy => by unfold sideP; split <;> omega
  by_cases ha : t < b * B - D
  · have hd : 0 < b * B - D - frP p b * B := by omega
    have s1 := hs (frP p b % 2) x hx
    have s2 := hs (b % 2) (3 * x) (by omega)
    rw [show dotP p B D x t q b = _ from dotP_air q ha]
    have hy : 0 ≤ highP (frP p b * B) (b * B - D) t := by
      unfold highP
      exact Int.mul_nonneg (by omega) (by omega)
    refine ⟨rfl, ⟨by show (-1 : Int) ≤ -1; omega, by show (-1 : Int) ≤ 1; omega⟩, fra_pos _ hd, fra_le hd ?_, fra_ge hd ?_, hy, fun h => absurd (show (0 : Int) ≤ -1 from h) (by decide)⟩
    · exact along_le (by omega) (by omega) h1 (by omega)
    · exact along_ge (by omega) (by omega) h1 (by omega)
  · have hd : 0 < D := by omega
    have s1 := hs (b % 2) (3 * x) (by omega)
    have s2 := hs (b % 2) x hx
    have e : b * B - (b * B - D) = D := by omega
    rw [show dotP p B D x t q b = _ from dotP_held q ha]
    refine ⟨rfl, ⟨by show -1 ≤ b % 2; omega, by show b % 2 ≤ 1; omega⟩, fra_pos _ hd, fra_le hd ?_, fra_ge hd ?_, Int.le_refl _, fun _ => ⟨rfl, fun h => fra_le hd ?_, fun h => fra_ge hd ?_⟩⟩
    · have := along_le (x1 := sideP (b % 2) (3 * x)) (x2 := sideP (b % 2) x) (M := 3 * x) (by omega) (by omega) (show b * B - D ≤ t by omega) (show t ≤ b * B by omega)
      rw [e] at this; exact this
    · have := along_ge (x1 := sideP (b % 2) (3 * x)) (x2 := sideP (b % 2) x) (M := -(3 * x)) (by omega) (by omega) (show b * B - D ≤ t by omega) (show t ≤ b * B by omega)
      rw [e] at this; exact this
    · have h0 : b % 2 = 0 := h
      have k1 : sideP (b % 2) (3 * x) ≤ -x := by unfold sideP; rw [if_pos h0]; omega
      have k2 : sideP (b % 2) x ≤ -x := by unfold sideP; rw [if_pos h0]; omega
      have := along_le k1 k2 (show b * B - D ≤ t by omega) (show t ≤ b * B by omega)
      rw [e] at this; exact this
    · have h0 : b % 2 = 1 := h
      have k1 : x ≤ sideP (b % 2) (3 * x) := by unfold sideP; rw [if_neg (by omega)]; omega
      have k2 : x ≤ sideP (b % 2) x := by unfold sideP; rw [if_neg (by omega)]; omega
      have := along_ge k1 k2 (show b * B - D ≤ t by omega) (show t ≤ b * B by omega)
      rw [e] at this; exact this
end Go.Proofs.Ytpcaaohdlcoplaa
end
section
set_option linter.unusedVariables false
namespace Go.Proofs.Ytpcaaohdlcoplaa
theorem hi_ok {L : List Dot5} : ∀ k, 1 ≤ k → k ≤ L.length → ∃ j, j < k ∧ hiN L k = L.getD j zDot ∧ ∀ i, i < k → (L.getD i zDot).2.2.2.2 ≤ (L.getD j zDot).2.2.2.2 ∧ ((L.getD i zDot).2.2.2.2 = (L.getD j zDot).2.2.2.2 → j ≤ i)
  | 0, h, _ => by omega
  | 1, _, hl => by
    refine ⟨0, by omega, ?_, fun i hi => ?_⟩
    · rw [hiN_one (by omega)]
      simp [hiN]
    · obtain rfl : i = 0 := by omega
      exact ⟨Int.le_refl _, fun _ => Nat.le_refl _⟩
  | k + 2, _, hl => by
    obtain ⟨j, hj, he, hall⟩ := hi_ok (L := L) (k + 1) (by omega) (by omega)
    have hk : k + 1 < L.length := by omega
    have e : L[k + 1] = L.getD (k + 1) zDot := by simp [List.getD, hk]
    rw [hiN_succ hk, he, e]
    unfold hiS
    by_cases h : (L.getD j zDot).2.2.2.2 < (L.getD (k + 1) zDot).2.2.2.2
    · rw [if_pos h]
      refine ⟨k + 1, by omega, rfl, fun i hi => ?_⟩
      by_cases hik : i = k + 1
      · subst hik; exact ⟨Int.le_refl _, fun _ => Nat.le_refl _⟩
      · have := (hall i (by omega)).1
        exact ⟨by omega, fun e => by omega⟩
    · rw [if_neg h]
      refine ⟨j, by omega, rfl, fun i hi => ?_⟩
      by_cases hik : i = k + 1
      · subst hik; exact ⟨by omega, fun _ => by omega⟩
      · exact hall i (by omega)
end Go.Proofs.Ytpcaaohdlcoplaa
end
section
namespace Go.Proofs.Ytpcaaohdlcoplaa
set_option linter.unusedVariables false
set_option linter.unusedSimpArgs false
def hnN (L : List Dot5) (k : Nat) : Int := sumN (fun i => if 0 ≤ (L.getD i zDot).2.1 then 1 else 0) k
theorem hnN_bd (L : List Dot5) : ∀ k, 0 ≤ hnN L k ∧ hnN L k ≤ k
  | 0 => by unfold hnN; simp [sumN]
  | k + 1 => by
    have ih := hnN_bd L k
    unfold hnN at *
    simp only [sumN]
    split <;> omega
def heldB (p : List Int) (B D t b : Int) : Bool := decide (0 < atP p b) && decide (b * B - D ≤ t) && decide (t < b * B)
def heldN (p : List Int) (B D t : Int) (k : Nat) : Int := sumN (fun j => if heldB p B D t (t / B + j) = true then 1 else 0) k
theorem heldN_bd (p : List Int) (B D t : Int) : ∀ k, 0 ≤ heldN p B D t k ∧ heldN p B D t k ≤ k
  | 0 => by unfold heldN; simp [sumN]
  | k + 1 => by
    have ih := heldN_bd p B D t k
    unfold heldN at *
    simp only [sumN]
    split <;> omega
section
variable {p : List Int} {B D t : Int}
theorem cnt_ins (Q : Nat → Bool) (l : List Nat) (b : Nat) : (insN p l b).countP Q = l.countP Q + if Q b = true then 1 else 0 := by
  unfold insN
  generalize posI (ordA p b) (l.map (ordA p)) l.length = n
  have h := congrArg (List.countP Q) (List.take_append_drop n l)
  rw [List.countP_append] at h
  rw [List.countP_append, List.countP_append, List.countP_singleton]
  split <;> omega
theorem cnt_win (Q : Nat → Bool) (f : Nat) : ∀ n, ((winS p f n).countP Q : Int) = sumN (fun j => if nxB p f (f + j) = true ∧ Q (f + j) = true then (1 : Int) else 0) n
  | 0 => rfl
  | n + 1 => by
    have ih := cnt_win Q f n
    show (((if nxB p f (f + n) = true then insN p (winS p f n) (f + n) else winS p f n).countP Q : Nat) : Int) = sumN (fun j => if nxB p f (f + j) = true ∧ Q (f + j) = true then (1 : Int) else 0) n + (if nxB p f (f + n) = true ∧ Q (f + n) = true then (1 : Int) else 0)
    rw [← ih]
    by_cases h : nxB p f (f + n) = true
    · rw [if_pos h, cnt_ins]
      by_cases hq : Q (f + n) = true
      · rw [if_pos hq, if_pos ⟨h, hq⟩]; omega
      · rw [if_neg hq, if_neg (fun h2 => hq h2.2)]; omega
    · rw [if_neg h, if_neg (fun h2 => h h2.1)]; omega
theorem cnt_get (Q : Nat → Bool) (L : List Nat) : ∀ k, k ≤ L.length → ((L.take k).countP Q : Int) = sumN (fun i => if Q (L.getD i 0) = true then (1 : Int) else 0) k
  | 0, _ => by simp [sumN]
  | k + 1, h => by
    have ih := cnt_get Q L k (by omega)
    have e : L.getD k 0 = L[k] := by simp [List.getD, show k < L.length by omega]
    simp only [sumN]
    rw [← ih, e, List.take_add_one, List.getElem?_eq_getElem (by omega), Option.toList_some, List.countP_append, List.countP_singleton]
    split <;> omega
theorem divF_bd (hB : 2 ≤ B) (ht : 0 ≤ t) : 0 ≤ t / B ∧ t / B * B ≤ t ∧ t < (t / B + 1) * B :=
  ⟨Int.ediv_nonneg ht (by omega), Int.ediv_mul_le t (by omega), Int.lt_ediv_add_one_mul_self t (by omega)⟩
theorem held_iff (hv : validP p = true) (hB : 2 ≤ B) (hD : 1 ≤ D ∧ D ≤ 2 * B) (ht : 0 ≤ t) (hf : fitsP p B D = true) (n : Nat) : (nxB p (t / B + 1).toNat ((t / B + 1).toNat + n) = true ∧ (((t / B + 1).toNat + n : Nat) : Int) * B - D ≤ t) ↔ heldB p B D t (t / B + ((n + 1 : Nat) : Int)) = true := by
  obtain ⟨h0, h1, h2⟩ := divF_bd hB ht
  obtain ⟨b, hb⟩ : ∃ b : Nat, (t / B + 1).toNat + n = b := ⟨_, rfl⟩
  have hbi : t / B + ((n + 1 : Nat) : Int) = (b : Int) := by omega
  rw [hb, hbi]
  have hlt : t < (b : Int) * B := Int.lt_of_lt_of_le h2 (Int.mul_le_mul_of_nonneg_right (by omega) (by omega))
  have hfb : (t / B + 1).toNat ≤ b := by omega
  unfold heldB
  simp only [Bool.and_eq_true, decide_eq_true_eq]
  constructor
  · rintro ⟨hn, hh⟩
    have := nx_at hv hfb hn
    have := at_bd hv b
    exact ⟨⟨by omega, hh⟩, hlt⟩
  · rintro ⟨⟨ha, hh⟩, -⟩
    refine ⟨?_, hh⟩
    have hfr := fr_lt hv (b := (b : Int)) (by omega)
    have hx : (b : Int) - frP p b ∈ p := by
      have hn := li_ok hv (mod_bd hv (b : Int))
      have := at_mem (p := p) hn.1
      unfold frP
      rwa [Int.sub_sub_self]
    have hfit := fits_yes.1 hf _ hx (by omega)
    rw [Int.sub_mul] at hfit
    have hle : frP p b ≤ t / B := (Int.le_ediv_iff_mul_le (by omega)).2 (by omega)
    unfold nxB
    rw [decide_eq_true_eq]
    omega
/-- the dots in hands are as many as the props that are held -/
theorem hands_held (hv : validP p = true) (hB : 2 ≤ B) (hD : 1 ≤ D ∧ D ≤ 2 * B) (ht : 0 ≤ t) (hf : fitsP p B D = true) (x : Int) : hnN (dotsF p B D x t) (dotsF p B D x t).length = heldN p B D t 4 := by
  obtain ⟨h0, h1, h2⟩ := divF_bd hB ht
  have hw := win_full hv (t / B + 1).toNat
  have hl := dotsF_len p B D x t
  have e1 : hnN (dotsF p B D x t) (dotsF p B D x t).length = sumN (fun i => if decide ((((winS p (t / B + 1).toNat 16).getD i 0 : Nat) : Int) * B - D ≤ t) = true then (1 : Int) else 0) (winS p (t / B + 1).toNat 16).length := by
    have hll : (dotsF p B D x t).length = (winS p (t / B + 1).toNat 16).length := by omega
    unfold hnN
    rw [hll]
    refine sumN_congr fun i hi => ?_
    have hi2 : i < (dotsF p B D x t).length := by omega
    have e : (dotsF p B D x t).getD i zDot = dotP p B D x t i (bqP p (t / B + 1).toNat i) := by
      rw [← dotsF_at hi2]; simp [List.getD, hi2]
    rw [e]
    show (if 0 ≤ (dotP p B D x t i (bqP p (t / B + 1).toNat i)).2.1 then (1 : Int) else 0) = if decide (((bqP p (t / B + 1).toNat i : Nat) : Int) * B - D ≤ t) = true then (1 : Int) else 0
    generalize bqP p (t / B + 1).toNat i = b
    have hb0 := Int.emod_nonneg (b : Int) (show (2 : Int) ≠ 0 by decide)
    by_cases ha : t < (b : Int) * B - D
    · rw [show dotP p B D x t i b = _ from dotP_air _ ha]
      rw [if_neg (show ¬ (0 : Int) ≤ -1 by decide), if_neg (by rw [decide_eq_true_eq]; omega)]
    · rw [show dotP p B D x t i b = _ from dotP_held _ ha]
      rw [if_pos (show 0 ≤ (b : Int) % 2 from hb0), if_pos (by rw [decide_eq_true_eq]; omega)]
  have e2 := cnt_get (fun b => decide ((b : Int) * B - D ≤ t)) (winS p (t / B + 1).toNat 16) _ (Nat.le_refl _)
  rw [List.take_length, cnt_win] at e2
  rw [e1]
  refine e2.symm.trans ?_
  have hdec : ∀ n : Nat, (if nxB p (t / B + 1).toNat ((t / B + 1).toNat + n) = true ∧ decide ((((t / B + 1).toNat + n : Nat) : Int) * B - D ≤ t) = true then (1 : Int) else 0) = if heldB p B D t (t / B + ((n + 1 : Nat) : Int)) = true then 1 else 0 := fun n => by
    have h := held_iff hv hB hD ht hf n
    by_cases hh : heldB p B D t (t / B + ((n + 1 : Nat) : Int)) = true
    · rw [if_pos hh, if_pos (by rw [decide_eq_true_eq]; exact h.2 hh)]
    · rw [if_neg hh, if_neg (by rw [decide_eq_true_eq]; exact fun h3 => hh (h.1 h3))]
  rw [sumN_congr (fun n _ => hdec n)]
  have hfar : ∀ n : Nat, 2 ≤ n → (if heldB p B D t (t / B + ((n + 1 : Nat) : Int)) = true then (1 : Int) else 0) = 0 := fun n hn => by
    refine if_neg fun hh => ?_
    unfold heldB at hh
    simp only [Bool.and_eq_true, decide_eq_true_eq] at hh
    have h3 : (t / B + 1 + 2) * B ≤ (t / B + ((n + 1 : Nat) : Int)) * B := Int.mul_le_mul_of_nonneg_right (by omega) (by omega)
    rw [Int.add_mul (t / B + 1)] at h3
    omega
  rw [sumN_cut hfar (show 2 ≤ 16 by omega)]
  have hz : (if heldB p B D t (t / B + ((0 : Nat) : Int)) = true then (1 : Int) else 0) = 0 := by
    refine if_neg fun hh => ?_
    unfold heldB at hh
    simp only [Bool.and_eq_true, decide_eq_true_eq, Int.add_zero, Int.natCast_zero] at hh
    omega
  have hl3 := hfar 2 (by omega)
  unfold heldN
  simp only [sumN, Nat.zero_add, Nat.reduceAdd] at *
  rw [hz, hl3]
  omega
end
end Go.Proofs.Ytpcaaohdlcoplaa
end
