/- Decimal numbers: impl.Decimal and spec.l01Dec. -/
import Derived.Test.YtgcmnpimkfmccaaDoorShelf
import Derived.Test.YtgcmnpimkfmccaaDoorLinM
import Derived.Test.YtgcmnpimkfmccaaDoorKeep
import Derived.Lib.SmallJoins
import Derived.Lib.AppendIntMem
namespace Go.Proofs.YtgcmnpimkfmccaaDoor
open Go.ChangeShapes Go.WideShapes Go.ChangeAt Go.RowKit
set_option linter.unusedVariables false
set_option linter.unusedSimpArgs false
/-- the decimal text of a number -/
def decT (n : Int) : ByteArray := ⟨(Lib.itoa n).toArray⟩
/-- the decimal digits of a number, none for 0 -/
def dgL (u : Nat) : List Int := if u = 0 then [] else dgL (u / 10) ++ [48 + ((u % 10 : Nat) : Int)]
termination_by u
decreasing_by omega
theorem dgL_zero : dgL 0 = [] := by rw [dgL]; rfl
theorem dgL_step {u : Nat} (h : 0 < u) : dgL u = dgL (u / 10) ++ [48 + ((u % 10 : Nat) : Int)] := by
  rw [dgL, if_neg (by omega)]
theorem dgL_len : ∀ (k u : Nat), u < 10 ^ k → (dgL u).length ≤ k
  | 0, u, h => by
    have : u = 0 := by simpa using h
    rw [this, dgL_zero]; simp
  | k + 1, u, h => by
    by_cases h0 : 0 < u
    · rw [dgL_step h0, List.length_append]
      have := dgL_len k (u / 10) (by rw [Nat.pow_succ] at h; omega)
      show _ + 1 ≤ _
      omega
    · have : u = 0 := by omega
      rw [this, dgL_zero]; simp
theorem dgL_dec (u : Nat) (h : 0 < u) : (dgL u).map (fun n => UInt8.ofNat n.toNat) = Lib.decDigits u := by
  induction u using Nat.strongRecOn with
  | _ u ih =>
    rw [dgL_step h, List.map_append, Lib.decDigits]
    by_cases h10 : u < 10
    · rw [dif_pos h10]
      have e1 : u / 10 = 0 := by omega
      have e2 : u % 10 = u := by omega
      rw [e1, e2, dgL_zero]
      show [UInt8.ofNat (48 + (u : Int)).toNat] = _
      have e3 : (48 + (u : Int)).toNat = 48 + u := by omega
      rw [e3]
    · rw [dif_neg h10, ih (u / 10) (by omega) (by omega)]
      have e3 : (48 + ((u % 10 : Nat) : Int)).toNat = 48 + u % 10 := by omega
      simp only [List.map_cons, List.map_nil, e3]
theorem str_dgL (u : Nat) (h : 0 < u) : strOfNums (dgL u) = ⟨(Lib.decDigits u).toArray⟩ := by
  unfold strOfNums
  rw [dgL_dec u h]
theorem decT_zero : decT 0 = ⟨#[48]⟩ := by
  unfold decT Lib.itoa
  rw [if_neg (by decide)]
  show (⟨(Lib.decDigits 0).toArray⟩ : ByteArray) = _
  rw [Lib.decDigits, dif_pos (by decide)]
  rfl
theorem decT_pos {n : Int} (h : 0 < n) : decT n = strOfNums (dgL n.natAbs) := by
  unfold decT Lib.itoa
  rw [if_neg (by omega), str_dgL _ (by omega), show n.toNat = n.natAbs by omega]
theorem decT_neg {n : Int} (h : n < 0) : decT n = ⟨#[45]⟩ ++ strOfNums (dgL n.natAbs) := by
  unfold decT Lib.itoa
  rw [if_pos h, str_dgL _ (by omega)]
  apply ByteArray.ext
  rw [ByteArray.data_append]
  simp
theorem decT_size {n : Int} (h : -9223372036854775808 ≤ n ∧ n ≤ 9223372036854775807) : (decT n).size ≤ 20 := by
  by_cases h0 : n = 0
  · subst h0; rw [decT_zero]; decide
  · have hl := dgL_len 19 n.natAbs (by have : (10 : Nat) ^ 19 = 10000000000000000000 := by decide
                                       omega)
    by_cases h1 : 0 < n
    · rw [decT_pos h1, strOfNums_size]; omega
    · rw [decT_neg (by omega), ByteArray.size_append, strOfNums_size]
      show 1 + _ ≤ _
      omega
/-- strconv's table of powers lies as it was laid -/
abbrev Tab (w : World) : Prop := Lib.TabIs Tryd.prog w "internal/strconv.uint64pow10" .u64 Lib.pow10Tab
theorem gTab : Tryd.prog.globalNamed "internal/strconv.uint64pow10" = some 0 := by kernel_rfl
theorem tab_below {w w' : World} (h : Tab w) (hb : Below w.heap.size w w') : Tab w' := Go.Joins.tab_stays gTab h hb (Nat.le_refl _)
theorem c_impl_Decimal (n : Int) (w : World) (hn : -9223372036854775808 ≤ n ∧ n ≤ 9223372036854775807) (ht : Tab w) :
    Calls Tryd.prog 28 #[.int .i64 n] w fun e w' => e = .returned (.string (decT n)) ∧ Below w.heap.size w w' := by
  have HT := Lib.hid ht
  have HD : Hid (decT n = ⟨(Lib.itoa n).toArray⟩) := rfl
  obtain ⟨h0, h1⟩ := hn
  clear ht
  go_enter Tryd.func28, Tryd.ntmps28
  go_wp2_with fail
  refine (Tryd.strconv_FormatInt_10 n h0 h1 _ HT.out).mono ?_; rintro e w1 ⟨rfl, k, os, rfl⟩
  have hb := Lib.below_grow w.heap.size w (Nat.le_refl _) k os
  rw [← HD.out]
  go_wp2
  go_ret
  exact ⟨rfl, hb⟩
theorem oneByte (w : World) (b : Int) : OwnB w.heap.size (w.heap.size + 1) (w.alloc (.cells #[.int .u8 b] 5)) (.slice (some ⟨w.heap.size, 0, none⟩) 1 1) [b] := by
  refine ⟨?_, fun k hk => ?_⟩
  · exact World.ownsRow_lit w #[.int .u8 b] 1 (Nat.le_refl _) (by decide) rfl
  · simp only [Value.ownBlock, Option.some.injEq] at hk
    omega
end Go.Proofs.YtgcmnpimkfmccaaDoor
