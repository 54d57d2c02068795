/- Plain definitions and lemmas on integers and lists. No program. -/
import Derived.Laws.BitsLemmas
namespace Go.Proofs.Ytcohceopahhacaa
def inB (n lo hi : Int) : Bool := decide (lo ≤ n ∧ n ≤ hi)
theorem inB_iff {n lo hi : Int} : inB n lo hi = true ↔ lo ≤ n ∧ n ≤ hi := by simp [inB]
def bitB (m t : Int) : Bool := decide (m / 2 ^ t.toNat % 2 = 1)
def canB (h m t : Int) : Bool := bif t == 0 then !bitB m 0 else inB t 1 h && bitB m 0 && !bitB m t
def validB (h m : Int) : Bool := inB h 1 10 && inB m 0 (2 ^ h.toNat - 1)
/-- all throws that are possible, the first k of them -/
def throwsTo (h m : Int) (k : Nat) : List Int := ((List.range k).map Int.ofNat).filter (canB h m)
def throwsL (h m : Int) : List Int := throwsTo h m (h + 1).toNat

theorem validB_iff {h m : Int} : validB h m = true ↔ (1 ≤ h ∧ h ≤ 10) ∧ (0 ≤ m ∧ m ≤ 2 ^ h.toNat - 1) := by simp [validB, inB]
theorem pow_le_1024 (n : Nat) (h : n ≤ 10) : (2 : Int) ^ n ≤ 1024 := by
  have h1 : 2 ^ n ≤ 2 ^ 10 := Nat.pow_le_pow_right (by decide) h
  have h2 : ((2 ^ n : Nat) : Int) ≤ ((2 ^ 10 : Nat) : Int) := by exact_mod_cast h1
  simpa using h2
theorem pow_pos_int (n : Nat) : (1 : Int) ≤ 2 ^ n := by
  have h1 : 1 ≤ 2 ^ n := Nat.one_le_two_pow
  have h2 : ((1 : Nat) : Int) ≤ ((2 ^ n : Nat) : Int) := by exact_mod_cast h1
  simpa using h2
theorem valid_bd {h m : Int} (hv : validB h m = true) : (1 ≤ h ∧ h ≤ 10) ∧ (0 ≤ m ∧ m < 1024) := by
  obtain ⟨h1, h2⟩ := validB_iff.1 hv
  have := pow_le_1024 h.toNat (by omega)
  exact ⟨h1, h2.1, by omega⟩

theorem wraps_i64 (n : Int) (h₀ : 0 ≤ n) (h₁ : n < 2 ^ 62) : IntKind.i64.wrap n = n := by rw [IntKind.wrap_i64]; omega
theorem and_one (x : Int) (h₀ : 0 ≤ x) (h₁ : x < 2 ^ 62) : bits .and .i64 x 1 = x % 2 := by
  have := bits_mask .i64 62 (by decide) wraps_i64 1 (by decide) x h₀ h₁
  simpa using this
theorem div_bd (m : Int) (t : Nat) (hm : 0 ≤ m ∧ m < 1024) : 0 ≤ m / 2 ^ t ∧ m / 2 ^ t < 1024 := by
  obtain ⟨a, rfl⟩ := Int.eq_ofNat_of_zero_le hm.1
  have h : a / 2 ^ t ≤ a := Nat.div_le_self _ _
  have h2 : a < 1024 := by omega
  have e : ((a : Int) / 2 ^ t) = ((a / 2 ^ t : Nat) : Int) := by simp
  rw [e]
  exact ⟨Int.natCast_nonneg _, Int.ofNat_lt.2 (Nat.lt_of_le_of_lt h h2)⟩
theorem bit_eq (m : Int) (t : Nat) (hm : 0 ≤ m ∧ m < 1024) : (bits .and .i64 (m / 2 ^ t) 1 == 1) = decide (m / 2 ^ t % 2 = 1) := by
  have h := div_bd m t hm
  rw [and_one _ h.1 (by omega)]
  rw [Bool.eq_iff_iff]; simp

theorem throwsTo_zero (h m : Int) : throwsTo h m 0 = [] := rfl
theorem throwsTo_yes {h m : Int} {k : Nat} (hc : canB h m k = true) : throwsTo h m (k + 1) = throwsTo h m k ++ [(k : Int)] := by
  simp [throwsTo, List.range_succ, List.filter_append, hc]
theorem throwsTo_no {h m : Int} {k : Nat} (hc : canB h m k = false) : throwsTo h m (k + 1) = throwsTo h m k := by
  simp [throwsTo, List.range_succ, List.filter_append, hc]
theorem throwsTo_len (h m : Int) (k : Nat) : (throwsTo h m k).length ≤ k := by
  have := List.length_filter_le (canB h m) ((List.range k).map Int.ofNat)
  simpa [throwsTo] using this
end Go.Proofs.Ytcohceopahhacaa
