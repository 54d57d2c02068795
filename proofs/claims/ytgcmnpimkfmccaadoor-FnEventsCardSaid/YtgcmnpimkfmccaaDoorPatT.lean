/- Contracts on the states of patterns: stateOf, l08Of. -/
import Derived.Test.YtgcmnpimkfmccaaDoorPatS
namespace Go.Proofs.YtgcmnpimkfmccaaDoor
open Go.ChangeShapes Go.WideShapes Go.ChangeAt Go.RowKit
set_option linter.unusedVariables false
set_option linter.unusedSimpArgs false
theorem or_st {p : List Int} {b : Int} {k : Nat} (hs : stB p b k = true) (hk : k < 11) : bits .or .i64 (stTo p b k) (2 ^ k) = stTo p b (k + 1) := by
  have hb := stTo_bd p b k
  have h2 : 2 ^ k ≤ 2 ^ 10 := Nat.pow_le_pow_right (by omega) (by omega)
  have h3 : ((2 : Int) ^ k) = ((2 ^ k : Nat) : Int) := by simp
  rw [or_i64 _ _ (by omega) (by rw [h3]; omega), stTo_succ, hs, cond_true]
  congr 1
theorem stB_false {p : List Int} {b : Int} {k : Nat} (hs : stB p b k = false) : stTo p b (k + 1) = stTo p b k := by rw [stTo_succ, hs, cond_false]
theorem stB_iff {p : List Int} {b : Int} {k : Nat} : stB p b k = true ↔ (k : Int) < p.getD (liN p ((b + k) % (p.length : Int))) 0 := by simp [stB]
theorem c_spec_l02At (p : List Int) (a : Int) (v : Value) (w : World) (h : RdI w v p) (hn : 1 ≤ p.length ∧ p.length ≤ 12) (ha : -100000 ≤ a ∧ a ≤ 100000) :
    Calls Tryd.prog 25 #[v, .int .i64 a] w fun e w' => e = .returned (.int .i64 (p.getD (a % (p.length : Int)).toNat 0)) ∧ w = w' := by
  obtain ⟨a1, cap1, rfl, hl1, hc1⟩ := h
  have h1 : 0 ≤ a % (p.length : Int) := Int.emod_nonneg _ (by omega)
  have h2 : a % (p.length : Int) < p.length := Int.emod_lt_of_pos _ (by omega)
  obtain ⟨r, Hr⟩ : ∃ r : Nat, Hid (a % (p.length : Int) = (r : Int)) := ⟨(a % (p.length : Int)).toNat, by unfold Hid; omega⟩
  rw [Hr.out] at h1 h2
  obtain ⟨b1, o1, rfl, hx⟩ := hc1 r (by omega)
  have HR : Hid (((r : Nat) : Int).toNat = r) := rfl
  go_enter Tryd.func25, Tryd.ntmps25
  go_wp2_with (go_at_call 27; refine (c_spec_l02Mod a (p.length : Int) _ (by omega) (by omega)).mono ?_; rintro e w2 ⟨rfl, rfl⟩; rw [Hr.out])
  go_ret
  refine ⟨?_, rfl⟩
  rw [Hr.out]
  simp [List.getD, show r < p.length by omega]
end Go.Proofs.YtgcmnpimkfmccaaDoor
