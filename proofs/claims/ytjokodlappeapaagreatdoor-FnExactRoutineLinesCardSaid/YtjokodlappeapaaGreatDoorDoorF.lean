/- DoorF, HandT: laid one behind the other. -/
import Derived.Test.YtjokodlappeapaaGreatDoorDec
import Derived.Test.YtjokodlappeapaaGreatDoorArgs
import Derived.Test.YtjokodlappeapaaGreatDoorArgsF
import Derived.Test.YtjokodlappeapaaGreatDoorCards
import Derived.Test.YtjokodlappeapaaGreatDoorTie
import Derived.LaidMore
import Derived.Stop.Joined
import Derived.Stop.LaidErr
import Derived.Deep.RegionHeld3
section
set_option linter.unusedVariables false
namespace Go.Proofs.YtjokodlappeapaaGreatDoor
open Go.ChangeShapes Go.WideShapes Go.ChangeAt Go.RowKit
set_option maxRecDepth 100000 in
theorem tab_of {W : World} (h : laidMetH Tryz.prog [("math/bits.deBruijn32tab", Rows.laid_math_bits_deBruijn32tab), ("math/bits.deBruijn64tab", Rows.laid_math_bits_deBruijn64tab), ("internal/strconv.uint64pow10", Rows.laid_internal_strconv_uint64pow10)] W) : Tab W := by
  rw [MakeChecks.laidMetH_plain _ _ _ (by kernel_rfl)] at h
  have h3 : laidMet Tryz.prog [("internal/strconv.uint64pow10", Lib.tabData .u64 Lib.pow10Tab)] W := h.tail.tail
  exact Lib.tabIs_of_head gTab (by kernel_rfl) Tryz.underlying184 Tryz.underlying125 (by kernel_rfl) (by kernel_rfl) h3
theorem ap_size {a b : ByteArray} {m n : Nat} (ha : a.size ≤ m) (hb : b.size ≤ n) : (a ++ b).size ≤ m + n := by rw [ByteArray.size_append]; omega
def inI (n : Int) : Prop := -9223372036854775808 ≤ n ∧ n ≤ 9223372036854775807
section
variable {H : Type} {enc : TypeId × Value → H} {W : World} {base : Nat} {v : Value} {d : DataW H} {p : List MemPlace}
end
end Go.Proofs.YtjokodlappeapaaGreatDoor
end
section
set_option linter.unusedVariables false
namespace Go.Proofs.YtjokodlappeapaaGreatDoor
open Go.ChangeShapes Go.WideShapes Go.ChangeAt Go.RowKit
set_option linter.unusedSimpArgs false
/-- the word of a hand -/
def handT (h : Int) : ByteArray := if h = -1 then ⟨#[97, 105, 114]⟩ else if h = 0 then ⟨#[108, 101, 102, 116]⟩ else if h = 1 then ⟨#[114, 105, 103, 104, 116]⟩ else ⟨#[]⟩
theorem handT_size (h : Int) : (handT h).size ≤ 5 := by
  unfold handT
  split
  · decide
  · split
    · decide
    · split <;> decide
def spT : ByteArray := ⟨#[32]⟩
theorem c_decI (n : Int) (D : ByteArray) (hD : Hid (decT n = D)) (w : World) (hn : inI n) (ht : Tab w) :
    Calls Tryz.prog 54 #[.int .i64 n] w fun e w' => e = .returned (.string D) ∧ Below w.heap.size w w' := by
  rw [← hD.out]; exact c_impl_Decimal n w hn ht
theorem c_decS (n : Int) (D : ByteArray) (hD : Hid (decT n = D)) (w : World) (hn : inI n) :
    Calls Tryz.prog 43 #[.int .i64 n] w fun e w' => e = .returned (.string D) ∧ Below w.heap.size w w' := by
  rw [← hD.out]; exact c_spec_l01Dec n w hn
theorem sp_size : (⟨#[32]⟩ : ByteArray).size ≤ 1 := by decide
end Go.Proofs.YtjokodlappeapaaGreatDoor
end
