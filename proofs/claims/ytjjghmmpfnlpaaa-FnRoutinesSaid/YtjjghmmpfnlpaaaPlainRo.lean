/- Plain facts: the throws of a routine lead from the ground state back to it, and are as many as its bridges and parts have. -/
import Derived.Test.YtjjghmmpfnlpaaaThr
import Derived.Test.YtjjghmmpfnlpaaaPlainSt
namespace Go.Proofs.Ytjjghmmpfnlpaaa
open Go.ChangeShapes Go.WideShapes Go.ChangeAt Go.RowKit
set_option linter.unusedVariables false
theorem rep_wk {h : Int} {p : List Int} {m : Int} (hw : Wk h m p m) : ∀ t, Wk h m (repL p t) m
  | 0 => rfl
  | t + 1 => by rw [repL_succ]; exact (rep_wk hw t).append hw
theorem thr_wk {h : Int} {X : List Part2} (R : RoutOk h X) : ∀ k, k ≤ X.length → Wk h (grR X) (thrTo h X k) (seqS h X (k + 1))
  | 0, _ => by
    have h1 := short_wk R.hh (R.sq 0) (R.sq 1)
    rw [seq_zero] at h1
    show Wk h (grR X) (shortL h (seqS h X 0) (seqS h X 1)) (seqS h X 1)
    rw [seq_zero]; exact h1
  | k + 1, hk => by
    have ih := thr_wk R k (by omega)
    have hk' : k < X.length := by omega
    have hp : Wk h (seqS h X (k + 1)) (patR X k) (seqS h X (k + 1)) := by rw [seq_succ hk']; exact wk_pat (R.hv k hk') R.hh (R.hp k hk')
    exact (ih.append (rep_wk hp _)).append (short_wk R.hh (R.sq (k + 1)) (R.sq (k + 2)))
theorem thR_wk {h : Int} {X : List Part2} (R : RoutOk h X) : Wk h (grR X) (thrR h X) (grR X) := by
  have := thr_wk R X.length (Nat.le_refl _)
  rw [seq_last] at this
  exact this
def pmul (X : List Part2) (i : Nat) : Int := timR X i * ((patR X i).length : Int)
theorem pmul_bd {h : Int} {X : List Part2} (R : RoutOk h X) {k : Nat} (hk : k < X.length) : 0 ≤ pmul X k ∧ pmul X k ≤ 240 := by
  have h1 := R.ht k hk
  have h2 := pat_len R hk
  unfold pmul
  exact ⟨Int.mul_nonneg (by omega) (by omega), Int.le_trans (Int.mul_le_mul h1.2 (show ((patR X k).length : Int) ≤ 12 by omega) (by omega) (by omega)) (by decide)⟩
theorem thr_sum {h : Int} {X : List Part2} (R : RoutOk h X) : ∀ k, k ≤ X.length → ((thrTo h X k).length : Int) = sumN (fun i => ((brAt h X i).length : Int)) (k + 1) + sumN (pmul X) k
  | 0, _ => by simp [thrTo, sumN]
  | k + 1, hk => by
    have ih := thr_sum R k (by omega)
    have ht := R.ht k (by omega)
    show ((thrTo h X k ++ repL (patR X k) (timR X k).toNat ++ brAt h X (k + 1)).length : Int) = _
    rw [List.length_append, List.length_append, repL_len]
    have e1 : (((timR X k).toNat * (patR X k).length : Nat) : Int) = pmul X k := by
      rw [Int.natCast_mul]
      show (((timR X k).toNat : Nat) : Int) * _ = timR X k * _
      rw [Int.toNat_of_nonneg (by omega)]
    show _ = sumN (fun i => ((brAt h X i).length : Int)) (k + 1) + ((brAt h X (k + 1)).length : Int) + (sumN (pmul X) k + pmul X k)
    omega
theorem br_sum (h : Int) (X : List Part2) : ∀ k, k ≤ X.length + 1 → (sumLen ((brR h X).take k) : Int) = sumN (fun i => ((brAt h X i).length : Int)) k
  | 0, _ => by simp [sumLen, sumN]
  | k + 1, hk => by
    have ih := br_sum h X k (by omega)
    have hl := brR_len h X
    rw [sumLen_snoc _ _ (by omega), br_row (by omega)]
    show ((sumLen ((brR h X).take k) + (brAt h X k).length : Nat) : Int) = sumN (fun i => ((brAt h X i).length : Int)) k + ((brAt h X k).length : Int)
    omega
/-- all throws: the bridges', and the parts' -/
theorem thR_len {h : Int} {X : List Part2} (R : RoutOk h X) : ((thrR h X).length : Int) = (sumLen (brR h X) : Int) + sumN (pmul X) X.length := by
  have h1 := thr_sum R X.length (Nat.le_refl _)
  have h2 := br_sum h X (X.length + 1) (Nat.le_refl _)
  rw [← brR_len h X, List.take_length] at h2
  unfold thrR
  rw [h1, h2, brR_len]
theorem pmul_sum {h : Int} {X : List Part2} (R : RoutOk h X) : ∀ k, k ≤ X.length → 0 ≤ sumN (pmul X) k ∧ sumN (pmul X) k ≤ 240 * k
  | 0, _ => by simp [sumN]
  | k + 1, hk => by
    have ih := pmul_sum R k (by omega)
    have := pmul_bd R (k := k) (by omega)
    simp only [sumN]
    omega
end Go.Proofs.Ytjjghmmpfnlpaaa
