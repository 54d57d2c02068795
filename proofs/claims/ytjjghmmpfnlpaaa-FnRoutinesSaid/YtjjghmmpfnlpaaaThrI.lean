/- Contracts: the throws of a routine (impl). -/
import Derived.Test.YtjjghmmpfnlpaaaThr
namespace Go.Proofs.Ytjjghmmpfnlpaaa
open Go.ChangeShapes Go.WideShapes Go.ChangeAt Go.RowKit
set_option linter.unusedSimpArgs false
set_option linter.unusedVariables false
set_option maxHeartbeats 2000000 in
set_option maxRecDepth 100000 in
theorem c_impl_repeated (p : List Int) (tm : Nat) (v : Value) (w : World) (hr : RdI w v p) (hp : p.length ≤ 1000) (ht : tm ≤ 1000) :
    Calls Try.prog 111 #[v, .int .i64 (tm : Int)] w fun e w' => ∃ u, e = .returned u ∧ OwnI1 w.heap.size w' u (repL p tm) ∧ Below w.heap.size w w' := by
  have HRW := Lib.hid hr
  have ho : OwnI1 w.heap.size (w.alloc (Obj.cells #[] 2)) (.slice (some ⟨w.heap.size, 0, none⟩) 0 0) (repL p 0) := OwnI.made rfl rfl (Nat.le_refl _)
  have hb0 : Below w.heap.size w (w.alloc (Obj.cells #[] 2)) := (Below.refl _ _).al _
  clear hr
  go_enter Try.func111, Try.ntmps111
  go_wp2_with fail
  go_loopw [5, 8] (fun out i wr => ∃ t : Nat, t ≤ tm ∧ i = .int .i64 t ∧ OwnI1 w.heap.size wr out (repL p t) ∧ (∃ ad n cap, out = .slice (some ad) n cap) ∧ Below w.heap.size w wr) (fun _ i _ => tm - (intOf i).toNat)
  case atStart => exact ⟨0, by omega, rfl, ho, ⟨_, _, _, rfl⟩, hb0⟩
  case round =>
    clear ho hb0
    obtain ⟨t, htt, rfl, hout, hso, hb⟩ := hrel
    obtain ⟨ad2, n2, cap2, hse⟩ := hso
    subst hse
    have hlo := World.ownsRow.lt hout
    have hbs := hb.size
    by_cases hlt : t < tm
    · have HRS := Lib.hid (repL_succ p t)
      have hll : (repL p t).length + p.length < 1000000000 := by
        rw [repL_len]
        have : t * p.length ≤ 1000 * 1000 := Nat.mul_le_mul (by omega) hp
        omega
      have hrr := HRW.out.below hb
      have ht0 : (0 : Int) ≤ (t : Int) := by omega
      go_wp2_with (at_builtin; refine push_ints rfl _ _ _ _ rfl Try.underlying28 infoI w.heap.size _ _ (repL p t) p _ rfl rfl (by exact hout) ⟨_, _, _, rfl⟩ (by exact hrr) hll hbs ?_; intro v9 w9 ho9 hg9 hat9 hs9; refine stop_of ?_)
      unfold Stopped
      have hso9 := some_next ⟨_, _, _, rfl⟩ ho9 hat9
      rw [← HRS.out] at ho9
      have HO9 := Lib.hid ho9
      have B9 : Below w.heap.size w w9 := hb.grown hg9 hbs (fun q hq => (hlo q hq).1)
      clear ho9
      go_wp2
      go_roundw
      case rel => exact ⟨t + 1, by omega, by go_num, HO9.out, hso9, B9⟩
      case measure => simp [intOf]; omega
    · obtain rfl : t = tm := by omega
      go_wp2
      go_ret
      exact ⟨_, rfl, hout, hb⟩
end Go.Proofs.Ytjjghmmpfnlpaaa
