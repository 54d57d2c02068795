/- Contracts: texts of states, lines of throws. -/
import Derived.Test.YtddfdppoclnpcaaDoorLinP
import Derived.Test.YtddfdppoclnpcaaDoorLinM
import Derived.Test.YtddfdppoclnpcaaDoorKeep
import Derived.Test.YtddfdppoclnpcaaDoorStates
import Derived.Deep.RegionHeld3
namespace Go.Proofs.YtddfdppoclnpcaaDoor
open Go.ChangeShapes Go.WideShapes Go.ChangeAt Go.RowKit
set_option linter.unusedVariables false
set_option linter.unusedSimpArgs false
theorem infoTx : (Tryd.prog.info? 9).map (fun i => (i.zero, i.size, i.bytes)) = some (some (.string ⟨#[]⟩), 1, 16) := by kernel_rfl
theorem rowT_ones (s : ByteArray) : ∀ u ∈ rowT s, u.oneCell' = true := by
  intro u hu
  simp only [rowT, List.mem_singleton] at hu
  subst hu; rfl
theorem btx_bd (m : Int) (k : Nat) : 48 ≤ btxN m k ∧ btxN m k ≤ 49 := by
  unfold btxN
  have := Int.emod_nonneg (m / 2 ^ k) (show (2 : Int) ≠ 0 by decide)
  have := Int.emod_lt_of_pos (m / 2 ^ k) (show (0 : Int) < 2 by decide)
  omega
theorem btx_zero (m : Int) (k : Nat) (h : bitB m k = false) : strOfNums (btxTo m (k + 1)) = strOfNums (btxTo m k) ++ ⟨#[48]⟩ := by
  have e : btxN m k = 48 := by
    have := btx_bd m k
    unfold bitB at h
    have h2 := of_decide_eq_false h
    unfold btxN at *
    simp only [Int.toNat_natCast] at h2
    omega
  rw [btxTo_succ, strOfNums_append, e]; rfl
theorem btx_one (m : Int) (k : Nat) (h : bitB m k = true) : strOfNums (btxTo m (k + 1)) = strOfNums (btxTo m k) ++ ⟨#[49]⟩ := by
  have e : btxN m k = 49 := by
    unfold bitB at h
    have h2 := of_decide_eq_true h
    unfold btxN
    simp only [Int.toNat_natCast] at h2
    omega
  rw [btxTo_succ, strOfNums_append, e]; rfl
theorem stT_size (h m : Int) : (stT h m).size = h.toNat := by unfold stT; rw [strOfNums_size, btxTo_len]
theorem c_textDt (xs : List Int) (D : ByteArray) (hD : hexT xs = D) (v : Value) (w : World) (h : RdI w v xs) (hx : ∀ x ∈ xs, 0 ≤ x ∧ x < 16) :
    Calls Tryd.prog 56 #[v] w fun e w' => e = .returned (.string D) ∧ Below w.heap.size w w' := by
  subst hD; exact c_spec_l02Text xs v w h hx
def lenV : Value → Nat
  | .slice _ n _ => n
  | _ => 0
/-- the next line: what is taken, and what is left -/
theorem chop (xs : List Int) (k n : Nat) (hn : n = min (xs.length - 12 * k) 12) : (xs.drop (12 * k)).take n = (xs.drop (12 * k)).take 12 ∧ (xs.drop (12 * k)).drop n = xs.drop (12 * (k + 1)) := by
  subst hn
  refine ⟨?_, ?_⟩
  · by_cases h : xs.length - 12 * k ≤ 12
    · rw [List.take_of_length_le (by rw [List.length_drop]; omega), List.take_of_length_le (by rw [List.length_drop]; omega)]
    · congr 1; omega
  · rw [List.drop_drop]
    by_cases h : xs.length - 12 * k ≤ 12
    · rw [List.drop_eq_nil_of_le (by omega), List.drop_eq_nil_of_le (by omega)]
    · congr 1; omega
theorem line_hex {xs : List Int} (hx : ∀ x ∈ xs, 0 ≤ x ∧ x < 16) (k : Nat) : ∀ x ∈ (xs.drop (12 * k)).take 12, 0 ≤ x ∧ x < 16 := fun x h => hx x (List.mem_of_mem_drop (List.mem_of_mem_take h))
end Go.Proofs.YtddfdppoclnpcaaDoor
