/- The law LinesX: what it rests on, part 2 of 46. -/
import Derived.Laws.BitsLemmas
namespace Go.Proofs.YtioemkdapoombaaGreatDoor
def inB (n lo hi : Int) : Bool := decide (lo ≤ n ∧ n ≤ hi)
theorem inB_iff {n lo hi : Int} : inB n lo hi = true ↔ lo ≤ n ∧ n ≤ hi := by simp [inB]
def bitB (m t : Int) : Bool := decide (m / 2 ^ t.toNat % 2 = 1)
def canB (h m t : Int) : Bool := bif t == 0 then !bitB m 0 else inB t 1 h && bitB m 0 && !bitB m t
def validB (h m : Int) : Bool := inB h 1 10 && inB m 0 (2 ^ h.toNat - 1)
/-- all throws that are possible, the first k of them -/
def throwsTo (h m : Int) (k : Nat) : List Int := ((List.range k).map Int.ofNat).filter (canB h m)
def throwsL (h m : Int) : List Int := throwsTo h m (h + 1).toNat

theorem validB_iff {h m : Int} : validB h m = true ↔ (1 ≤ h ∧ h ≤ 10) ∧ (0 ≤ m ∧ m ≤ 2 ^ h.toNat - 1) := by simp [validB, inB]
theorem pow_le_1024 (n : Nat) (h : n ≤ 10) : (2 : Int) ^ n ≤ 1024 := by
  have h1 : 2 ^ n ≤ 2 ^ 10 := Nat.pow_le_pow_right (by decide) h
  have h2 : ((2 ^ n : Nat) : Int) ≤ ((2 ^ 10 : Nat) : Int) := by exact_mod_cast h1
  simpa using h2
theorem pow_pos_int (n : Nat) : (1 : Int) ≤ 2 ^ n := by
  have h1 : 1 ≤ 2 ^ n := Nat.one_le_two_pow
  have h2 : ((1 : Nat) : Int) ≤ ((2 ^ n : Nat) : Int) := by exact_mod_cast h1
  simpa using h2
theorem valid_bd {h m : Int} (hv : validB h m = true) : (1 ≤ h ∧ h ≤ 10) ∧ (0 ≤ m ∧ m < 1024) := by
  obtain ⟨h1, h2⟩ := validB_iff.1 hv
  have := pow_le_1024 h.toNat (by omega)
  exact ⟨h1, h2.1, by omega⟩

theorem wraps_i64 (n : Int) (h₀ : 0 ≤ n) (h₁ : n < 2 ^ 62) : IntKind.i64.wrap n = n := by rw [IntKind.wrap_i64]; omega
theorem and_one (x : Int) (h₀ : 0 ≤ x) (h₁ : x < 2 ^ 62) : bits .and .i64 x 1 = x % 2 := by
  have := bits_mask .i64 62 (by decide) wraps_i64 1 (by decide) x h₀ h₁
  simpa using this
theorem div_bd (m : Int) (t : Nat) (hm : 0 ≤ m ∧ m < 1024) : 0 ≤ m / 2 ^ t ∧ m / 2 ^ t < 1024 := by
  obtain ⟨a, rfl⟩ := Int.eq_ofNat_of_zero_le hm.1
  have h : a / 2 ^ t ≤ a := Nat.div_le_self _ _
  have h2 : a < 1024 := by omega
  have e : ((a : Int) / 2 ^ t) = ((a / 2 ^ t : Nat) : Int) := by simp
  rw [e]
  exact ⟨Int.natCast_nonneg _, Int.ofNat_lt.2 (Nat.lt_of_le_of_lt h h2)⟩
theorem bit_eq (m : Int) (t : Nat) (hm : 0 ≤ m ∧ m < 1024) : (bits .and .i64 (m / 2 ^ t) 1 == 1) = decide (m / 2 ^ t % 2 = 1) := by
  have h := div_bd m t hm
  rw [and_one _ h.1 (by omega)]
  rw [Bool.eq_iff_iff]; simp

theorem throwsTo_yes {h m : Int} {k : Nat} (hc : canB h m k = true) : throwsTo h m (k + 1) = throwsTo h m k ++ [(k : Int)] := by
  simp [throwsTo, List.range_succ, List.filter_append, hc]
theorem throwsTo_no {h m : Int} {k : Nat} (hc : canB h m k = false) : throwsTo h m (k + 1) = throwsTo h m k := by
  simp [throwsTo, List.range_succ, List.filter_append, hc]
theorem throwsTo_len (h m : Int) (k : Nat) : (throwsTo h m k).length ≤ k := by
  have := List.length_filter_le (canB h m) ((List.range k).map Int.ofNat)
  simpa [throwsTo] using this
/-- a list of 1 to 12 throws from 0 to 15 -/
def okThrows (xs : List Int) : Bool := xs.all (fun x => inB x 0 15) && inB xs.length 1 12
def landAt (xs : List Int) (i : Nat) : Int := ((i : Int) + xs.getD i 0) % (xs.length : Int)
def landTo (xs : List Int) (k : Nat) : List Int := (List.range k).map (landAt xs)
def landL (xs : List Int) : List Int := landTo xs xs.length
def clashFree (L : List Int) : Prop := ∀ i, i < L.length → ∀ k, k < i → L.getD k 0 ≠ L.getD i 0
def clashB (L : List Int) : Bool := (List.range L.length).all fun i => (List.range i).all fun k => L.getD k 0 != L.getD i 0
theorem clashB_iff {L : List Int} : clashB L = true ↔ clashFree L := by
  unfold clashB clashFree
  simp only [List.all_eq_true, List.mem_range, bne_iff_ne]
theorem clashB_true {L : List Int} (h : clashFree L) : clashB L = true := clashB_iff.2 h
theorem clashB_false {L : List Int} (h : ¬ clashFree L) : clashB L = false := by
  cases hc : clashB L
  · rfl
  · exact absurd (clashB_iff.1 hc) h
def validP (xs : List Int) : Bool := okThrows xs && clashB (landL xs)
def collCode (xs : List Int) : Int := bif okThrows xs then (bif clashB (landL xs) then 0 else 9) else 1
theorem okThrows_iff {xs : List Int} : okThrows xs = true ↔ (∀ x ∈ xs, 0 ≤ x ∧ x ≤ 15) ∧ (1 ≤ xs.length ∧ xs.length ≤ 12) := by
  unfold okThrows
  rw [Bool.and_eq_true, List.all_eq_true, inB_iff]
  constructor
  · rintro ⟨h1, h2⟩
    exact ⟨fun x hx => inB_iff.1 (h1 x hx), by omega⟩
  · rintro ⟨h1, h2⟩
    exact ⟨fun x hx => inB_iff.2 (h1 x hx), by omega⟩
theorem okThrows_at {xs : List Int} (h : okThrows xs = true) (i : Nat) (hi : i < xs.length) : 0 ≤ xs.getD i 0 ∧ xs.getD i 0 ≤ 15 := by
  have := (okThrows_iff.1 h).1 (xs.getD i 0) (by rw [List.getD_eq_getElem?_getD, List.getElem?_eq_getElem hi]; exact List.getElem_mem hi)
  exact this
theorem okThrows_bad {xs : List Int} (i : Nat) (hi : i < xs.length) (h : inB (xs.getD i 0) 0 15 = false) : okThrows xs = false := by
  cases hk : okThrows xs
  · rfl
  · have h1 := okThrows_at hk i hi
    have := inB_iff.2 h1
    rw [h] at this; cases this
theorem all_take_succ {xs : List Int} {k : Nat} (hk : k < xs.length) (h : (xs.take k).all (fun x => inB x 0 15) = true) (hx : inB (xs.getD k 0) 0 15 = true) : (xs.take (k + 1)).all (fun x => inB x 0 15) = true := by
  rw [List.take_add_one, List.getElem?_eq_getElem hk]
  have e : xs.getD k 0 = xs[k] := by simp [List.getD, hk]
  rw [e] at hx
  rw [List.all_append, h]
  simp [hx]
@[simp] theorem landTo_length (xs : List Int) (k : Nat) : (landTo xs k).length = k := by simp [landTo]
theorem landTo_succ (xs : List Int) (k : Nat) : landTo xs (k + 1) = landTo xs k ++ [landAt xs k] := by simp [landTo, List.range_succ]
theorem landTo_get (xs : List Int) (n i : Nat) (h : i < n) : (landTo xs n).getD i 0 = landAt xs i := by simp [landTo, List.getD, h]
/-- no clash among the first i, nor of i with the first k -/
def clashTo (L : List Int) (i k : Nat) : Prop := (∀ i', i' < i → ∀ k', k' < i' → L.getD k' 0 ≠ L.getD i' 0) ∧ ∀ k', k' < k → L.getD k' 0 ≠ L.getD i 0
theorem clashTo_zero (L : List Int) : clashTo L 0 0 := ⟨fun i' h => by omega, fun k' h => by omega⟩
theorem clashTo_one (L : List Int) : clashTo L 1 0 := ⟨fun i' h k' h2 => by omega, fun k' h => by omega⟩
theorem clashTo_step {L : List Int} {i k : Nat} (h : clashTo L i k) (hne : L.getD k 0 ≠ L.getD i 0) : clashTo L i (k + 1) :=
  ⟨h.1, fun k' hk => by
    by_cases e : k' = k
    · subst e; exact hne
    · exact h.2 k' (by omega)⟩
theorem clashTo_next {L : List Int} {i : Nat} (h : clashTo L i i) : clashTo L (i + 1) 0 :=
  ⟨fun i' hi k' hk => by
    by_cases e : i' = i
    · subst e; exact h.2 k' hk
    · exact h.1 i' (by omega) k' hk, fun k' h => by omega⟩
theorem clashTo_all {L : List Int} (h : clashTo L L.length 0) : clashB L = true := clashB_true fun i hi k hk => h.1 i hi k hk
theorem clash_at {L : List Int} {i k : Nat} (hi : i < L.length) (hk : k < i) (he : L.getD k 0 = L.getD i 0) : clashB L = false := clashB_false fun h => h i hi k hk he
end Go.Proofs.YtioemkdapoombaaGreatDoor
