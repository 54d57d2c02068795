/- DoorF, HandT: laid one behind the other. -/
import Derived.Test.YtgcmnpimkfmccaaDoorDec
import Derived.Test.YtgcmnpimkfmccaaDoorArgs
import Derived.Test.YtgcmnpimkfmccaaDoorArgsF
import Derived.Test.YtgcmnpimkfmccaaDoorCards
import Derived.Test.YtgcmnpimkfmccaaDoorTie
import Derived.LaidMore
import Derived.Stop.Joined
import Derived.Stop.LaidErr
import Derived.Deep.RegionHeld3
section
set_option linter.unusedVariables false
namespace Go.Proofs.YtgcmnpimkfmccaaDoor
open Go.ChangeShapes Go.WideShapes Go.ChangeAt Go.RowKit
set_option maxRecDepth 100000 in
theorem tab_of {W : World} (h : laidMetH Tryd.prog [("math/bits.deBruijn32tab", Rows.laid_math_bits_deBruijn32tab), ("math/bits.deBruijn64tab", Rows.laid_math_bits_deBruijn64tab), ("internal/strconv.uint64pow10", Rows.laid_internal_strconv_uint64pow10)] W) : Tab W := by
  rw [MakeChecks.laidMetH_plain _ _ _ (by kernel_rfl)] at h
  have h3 : laidMet Tryd.prog [("internal/strconv.uint64pow10", Lib.tabData .u64 Lib.pow10Tab)] W := h.tail.tail
  exact Lib.tabIs_of_head gTab (by kernel_rfl) Tryd.underlying100 Tryd.underlying54 (by kernel_rfl) (by kernel_rfl) h3
theorem ap_size {a b : ByteArray} {m n : Nat} (ha : a.size ≤ m) (hb : b.size ≤ n) : (a ++ b).size ≤ m + n := by rw [ByteArray.size_append]; omega
def inI (n : Int) : Prop := -9223372036854775808 ≤ n ∧ n ≤ 9223372036854775807
section
variable {H : Type} {enc : TypeId × Value → H} {W : World} {base : Nat} {v : Value} {d : DataW H} {p : List MemPlace}
end
end Go.Proofs.YtgcmnpimkfmccaaDoor
end
section
set_option linter.unusedVariables false
namespace Go.Proofs.YtgcmnpimkfmccaaDoor
open Go.ChangeShapes Go.WideShapes Go.ChangeAt Go.RowKit
set_option linter.unusedSimpArgs false
/-- the word of a hand -/
def handT (h : Int) : ByteArray := if h = -1 then ⟨#[97, 105, 114]⟩ else if h = 0 then ⟨#[108, 101, 102, 116]⟩ else if h = 1 then ⟨#[114, 105, 103, 104, 116]⟩ else ⟨#[]⟩
theorem handT_size (h : Int) : (handT h).size ≤ 5 := by
  unfold handT
  split
  · decide
  · split
    · decide
    · split <;> decide
def spT : ByteArray := ⟨#[32]⟩
theorem c_impl_handWord (h : Int) (w : World) : Calls Tryd.prog 29 #[.int .i64 h] w fun e w' => e = .returned (.string (handT h)) ∧ w = w' := by
  by_cases h1 : h = -1
  · subst h1
    go_enter Tryd.func29, Tryd.ntmps29
    go_wp2
    go_ret
    exact ⟨rfl, rfl⟩
  · by_cases h2 : h = 0
    · subst h2
      go_enter Tryd.func29, Tryd.ntmps29
      go_wp2
      go_ret
      exact ⟨rfl, rfl⟩
    · by_cases h3 : h = 1
      · subst h3
        go_enter Tryd.func29, Tryd.ntmps29
        go_wp2
        go_ret
        exact ⟨rfl, rfl⟩
      · have HH : Hid (handT h = ⟨#[]⟩) := by unfold Hid handT; rw [if_neg h1, if_neg h2, if_neg h3]
        have t1 : (h == -1) = false := by simpa using h1
        have t2 : (h == 0) = false := by simpa using h2
        have t3 : (h == 1) = false := by simpa using h3
        go_enter Tryd.func29, Tryd.ntmps29
        go_wp2
        go_ret
        exact ⟨by rw [HH.out]; rfl, rfl⟩
theorem c_decI (n : Int) (D : ByteArray) (hD : Hid (decT n = D)) (w : World) (hn : inI n) (ht : Tab w) :
    Calls Tryd.prog 28 #[.int .i64 n] w fun e w' => e = .returned (.string D) ∧ Below w.heap.size w w' := by
  rw [← hD.out]; exact c_impl_Decimal n w hn ht
theorem sp_size : (⟨#[32]⟩ : ByteArray).size ≤ 1 := by decide
end Go.Proofs.YtgcmnpimkfmccaaDoor
end
