/- The laws' helpers on slices of strings, with int64 counts. -/
import Derived.Test.YtjokodlappeapaaGreatDoorLawS
namespace Go.Proofs.YtjokodlappeapaaGreatDoor
open Go.ChangeShapes Go.WideShapes Go.ChangeAt Go.RowKit
set_option linter.unusedVariables false
theorem c_laws_markStringSI (lo hi : Nat) (xs : List ByteArray) (q : Int) (v : Value) (w : World) (h : OwnT lo hi w v xs) (hiw : hi ≤ w.heap.size) (hq : 0 < q) (hq2 : q + xs.length < 4611686018427387904) :
    Calls Tryz.prog 13 #[v, .int .i64 q] w fun e w' => e = .returned (.int .i64 (q + (xs.length : Int))) ∧ OwnT lo hi w' v (marksT q.toNat xs.length) ∧ Upd lo hi w w' := by
  obtain ⟨k, rfl⟩ := Int.eq_ofNat_of_zero_le (Int.le_of_lt hq)
  have := c_laws_markStringS lo hi xs k v w h hiw (by omega) (by omega)
  rw [Int.natCast_add] at this
  exact this
theorem c_laws_heldStringSI (n : Nat) (q : Int) (v : Value) (w : World) (h : RdRow 1 rowT w v (marksT q.toNat n)) (hq : 0 < q) (hq2 : q + n < 4611686018427387904) :
    Calls Tryz.prog 14 #[v, .int .i64 q] w fun e w' => e = .returned (.int .i64 (q + (n : Int))) ∧ Below w.heap.size w w' := by
  obtain ⟨k, rfl⟩ := Int.eq_ofNat_of_zero_le (Int.le_of_lt hq)
  have := c_laws_heldStringS n k v w h (by omega) (by omega)
  rw [Int.natCast_add] at this
  exact this
end Go.Proofs.YtjokodlappeapaaGreatDoor
