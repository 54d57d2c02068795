/- Contracts of the laws' helpers on slices of strings: eq, mark, held. -/
import Derived.Test.YtgcmnpimkfmccaaDoorStates
import Derived.Test.YtgcmnpimkfmccaaDoorMemR
import Derived.Laws.BytesArg
import Derived.Deep.RegionHeld3
namespace Go.Proofs.YtgcmnpimkfmccaaDoor
open Go.ChangeShapes Go.WideShapes Go.ChangeAt Go.RowKit
set_option linter.unusedVariables false
/-- one digit -/
def digT (n : Nat) : ByteArray := strOfNums [48 + (n : Int) % 10]
theorem digT_size (n : Nat) : (digT n).size = 1 := rfl
/-- the decimal digits of n ahead of the text acc -/
def digitsT (n : Nat) (acc : ByteArray) : ByteArray := if n = 0 then acc else digitsT (n / 10) (digT n ++ acc)
termination_by n
decreasing_by omega
theorem digitsT_step {n : Nat} (h : 0 < n) (acc : ByteArray) : digitsT n acc = digitsT (n / 10) (digT n ++ acc) := by
  rw [digitsT, if_neg (by omega)]
def mText (k : Nat) : ByteArray := if k = 0 then ⟨#[109, 48]⟩ else ⟨#[109]⟩ ++ digitsT k ⟨#[]⟩
def rowT (s : ByteArray) : List Value := [.string s]
theorem rowT_len : ∀ x, (rowT x).length = 1 := fun _ => rfl
abbrev OwnT (lo hi : Nat) (w : World) (v : Value) (xs : List ByteArray) : Prop := OwnRow 9 1 rowT lo hi w v xs
theorem rdT_at {w : World} {a : Option Addr} {n cap : Nat} {xs : List ByteArray} (h : RdRow 1 rowT w (.slice a n cap) xs) (k : Nat) (hk : k < xs.length) : ∃ b off, a = some ⟨b, off, none⟩ ∧ w.cell? ⟨b, off + k, none⟩ = some (.string xs[k]) := by
  obtain ⟨a', cap', he, _, hc⟩ := h
  cases he
  obtain ⟨b, off, ha, hx⟩ := hc k hk
  refine ⟨b, off, ha, ?_⟩
  have h0 := hx 0 _ rfl
  rw [Nat.add_zero, Nat.mul_one] at h0; exact h0
def marksT (q : Nat) (n : Nat) : List ByteArray := (List.range n).map fun i : Nat => mText (q + i)
@[simp] theorem marksT_length (q n : Nat) : (marksT q n).length = n := by simp [marksT]
theorem marksT_succ (q n : Nat) : marksT q (n + 1) = marksT q n ++ [mText (q + n)] := by simp [marksT, List.range_succ]
theorem marksT_get (q n i : Nat) (h : i < (marksT q n).length) : (marksT q n)[i] = mText (q + i) := by simp [marksT]
def markedT (q : Nat) (xs : List ByteArray) (i : Nat) : List ByteArray := marksT q i ++ xs.drop i
theorem markedT_zero (q : Nat) (xs : List ByteArray) : markedT q xs 0 = xs := by simp [markedT, marksT]
theorem markedT_all (q : Nat) (xs : List ByteArray) : markedT q xs xs.length = marksT q xs.length := by simp [markedT]
theorem markedT_length (q : Nat) (xs : List ByteArray) (i : Nat) (h : i ≤ xs.length) : (markedT q xs i).length = xs.length := by simp [markedT]; omega
theorem markedT_set (q : Nat) (xs : List ByteArray) (i : Nat) (h : i < xs.length) : ((markedT q xs i).flatMap rowT).set i (.string (mText (q + i))) = (markedT q xs (i + 1)).flatMap rowT := by
  have e1 : xs.drop i = xs[i] :: xs.drop (i + 1) := by simp
  unfold markedT
  rw [marksT_succ, e1, List.flatMap_append, List.flatMap_append, List.flatMap_append, List.flatMap_cons]
  have hp : ((marksT q i).flatMap rowT).length = i := by rw [flat_len rowT_len, marksT_length, Nat.mul_one]
  rw [List.set_append_right _ _ (by omega), hp, Nat.sub_self]
  simp [rowT]
end Go.Proofs.YtgcmnpimkfmccaaDoor
