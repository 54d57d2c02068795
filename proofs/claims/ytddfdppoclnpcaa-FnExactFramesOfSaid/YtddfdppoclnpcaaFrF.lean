/- Contracts: the codes of the functions on flights and frames. -/
import Derived.Test.YtddfdppoclnpcaaFrB
import Derived.Test.YtddfdppoclnpcaaPatU
import Derived.Test.YtddfdppoclnpcaaValidT
namespace Go.Proofs.Ytddfdppoclnpcaa
open Go.ChangeShapes Go.WideShapes Go.ChangeAt Go.RowKit
set_option linter.unusedVariables false
set_option linter.unusedSimpArgs false
/-- each throw that is not 0 flies for a tick at least -/
def fitX (B D x : Int) : Bool := !(decide (0 < x) && decide (x * B - D < 1))
def fitsP (p : List Int) (B D : Int) : Bool := p.all (fitX B D)
theorem fits_yes {p : List Int} {B D : Int} : fitsP p B D = true ↔ ∀ x ∈ p, 0 < x → 1 ≤ x * B - D := by
  unfold fitsP fitX
  simp only [List.all_eq_true, Bool.not_eq_true', Bool.and_eq_false_iff, decide_eq_false_iff_not]
  constructor
  · intro h x hx h0
    rcases h x hx with h1 | h1 <;> omega
  · intro h x hx
    by_cases h0 : 0 < x
    · right; have := h x hx h0; omega
    · exact Or.inl h0
theorem fits_take {p : List Int} {B D : Int} {k : Nat} (hk : k < p.length) (h : (p.take k).all (fitX B D) = true) (hx : fitX B D (p.getD k 0) = true) : (p.take (k + 1)).all (fitX B D) = true := by
  have e : p.getD k 0 = p[k] := by simp [List.getD, hk]
  rw [e] at hx
  rw [List.take_add_one, List.getElem?_eq_getElem hk]
  simp only [Option.toList, List.all_append, h, Bool.true_and, List.all_cons, List.all_nil, Bool.and_true]
  exact hx
theorem fits_no {p : List Int} {B D : Int} {k : Nat} (hk : k < p.length) (hx : fitX B D (p.getD k 0) = false) : fitsP p B D = false := by
  have e : p.getD k 0 = p[k] := by simp [List.getD, hk]
  rw [e] at hx
  rw [← Bool.not_eq_true]
  intro h
  have := List.all_eq_true.1 h _ (List.getElem_mem hk)
  rw [hx] at this
  cases this
/-- the longest dwell time -/
def mostX (B m x : Int) : Int := if 0 < x then (if m < x * B - 1 then m else x * B - 1) else m
def mostTo (p : List Int) (B : Int) (k : Nat) : Int := (p.take k).foldl (mostX B) (2 * B)
theorem mostTo_succ {p : List Int} {B : Int} {k : Nat} (hk : k < p.length) : mostTo p B (k + 1) = mostX B (mostTo p B k) (p.getD k 0) := by
  have e : p.getD k 0 = p[k] := by simp [List.getD, hk]
  unfold mostTo
  rw [List.take_add_one, List.getElem?_eq_getElem hk, e]
  simp only [Option.toList, List.foldl_append, List.foldl_cons, List.foldl_nil]
theorem most_le (B D : Int) : ∀ (l : List Int) (m : Int), D ≤ l.foldl (mostX B) m ↔ D ≤ m ∧ ∀ x ∈ l, 0 < x → D ≤ x * B - 1
  | [], m => by simp
  | x :: l, m => by
    rw [List.foldl_cons, most_le B D l]
    have hx : D ≤ mostX B m x ↔ D ≤ m ∧ (0 < x → D ≤ x * B - 1) := by
      unfold mostX
      by_cases h0 : 0 < x
      · rw [if_pos h0]
        split
        · constructor
          · intro h; exact ⟨h, fun _ => by omega⟩
          · exact fun h => h.1
        · constructor
          · intro h; exact ⟨by omega, fun _ => h⟩
          · exact fun h => h.2 h0
      · rw [if_neg h0]
        constructor
        · exact fun h => ⟨h, fun h1 => absurd h1 h0⟩
        · exact fun h => h.1
    rw [hx]
    simp only [List.mem_cons, forall_eq_or_imp]
    constructor
    · rintro ⟨⟨h1, h2⟩, h3⟩; exact ⟨h1, h2, h3⟩
    · rintro ⟨h1, h2, h3⟩; exact ⟨⟨h1, h2⟩, h3⟩
theorem most_fits {p : List Int} {B D : Int} (hD : D ≤ 2 * B) : decide (D ≤ mostTo p B p.length) = fitsP p B D := by
  have h : D ≤ mostTo p B p.length ↔ fitsP p B D = true := by
    unfold mostTo
    rw [List.take_length, most_le, fits_yes]
    constructor
    · rintro ⟨-, h⟩ x hx h0; have := h x hx h0; omega
    · intro h; exact ⟨hD, fun x hx h0 => by have := h x hx h0; omega⟩
  cases hf : fitsP p B D
  · rw [decide_eq_false_iff_not, h, hf]; decide
  · rw [decide_eq_true_iff, h, hf]
theorem mostTo_bd {p : List Int} {B : Int} (hB : 2 ≤ B ∧ B ≤ 30) (hb : ∀ x ∈ p, 0 ≤ x ∧ x ≤ 15) : ∀ k, 0 ≤ mostTo p B k ∧ mostTo p B k ≤ 60
  | 0 => by unfold mostTo; rw [List.take_zero]; show 0 ≤ 2 * B ∧ 2 * B ≤ 60; omega
  | k + 1 => by
    have ih := mostTo_bd hB hb k
    by_cases hk : k < p.length
    · rw [mostTo_succ hk]
      have hx := hb _ (at_mem (p := p) (i := k) hk)
      generalize p.getD k 0 = x at *
      unfold mostX
      split
      · split
        · exact ih
        · rename_i h0 h1
          have : 1 * 2 ≤ x * B := Int.mul_le_mul (by omega) hB.1 (by omega) (by omega)
          omega
      · exact ih
    · have : mostTo p B (k + 1) = mostTo p B k := by
        unfold mostTo
        rw [List.take_of_length_le (by omega), List.take_of_length_le (by omega)]
      rw [this]; exact ih
def fCode (p : List Int) (B D x : Int) : Int := if validP p = false then 1 else if validT B D = false ∨ inB x 0 16 = false then 2 else if fitsP p B D = false ∨ 40 < mxF 0 p * B - D then 6 else 0
def frCode (p : List Int) (B D x t : Int) : Int := if fCode p B D x ≠ 0 then fCode p B D x else if inB t 0 3000 = false then 2 else 0
theorem fc1 {p : List Int} {B D x : Int} (h : validP p = false) : Hid (fCode p B D x = 1) := by unfold Hid fCode; rw [if_pos h]
theorem fc2 {p : List Int} {B D x : Int} (h : validP p = true) (h2 : validT B D = false ∨ inB x 0 16 = false) : Hid (fCode p B D x = 2) := by unfold Hid fCode; rw [if_neg (by simp [h]), if_pos h2]
theorem fc6 {p : List Int} {B D x : Int} (h : validP p = true) (h2 : validT B D = true) (h3 : inB x 0 16 = true) (h4 : fitsP p B D = false ∨ 40 < mxF 0 p * B - D) : Hid (fCode p B D x = 6) := by unfold Hid fCode; rw [if_neg (by simp [h]), if_neg (by simp [h2, h3]), if_pos h4]
theorem fc0 {p : List Int} {B D x : Int} (h : validP p = true) (h2 : validT B D = true) (h3 : inB x 0 16 = true) (h4 : fitsP p B D = true) (h5 : ¬ 40 < mxF 0 p * B - D) : Hid (fCode p B D x = 0) := by unfold Hid fCode; rw [if_neg (by simp [h]), if_neg (by simp [h2, h3]), if_neg (by simp [h4, h5])]
theorem validT_bd {B D : Int} (h : validT B D = true) : (2 ≤ B ∧ B ≤ 30) ∧ 1 ≤ D ∧ D ≤ 2 * B := by
  unfold validT at h
  simp only [Bool.and_eq_true] at h
  exact ⟨inB_iff.1 h.1, inB_iff.1 h.2⟩
theorem mx_bd {p : List Int} (hb : ∀ x ∈ p, 0 ≤ x ∧ x ≤ 15) : ∀ {m : Int}, 0 ≤ m ∧ m ≤ 15 → 0 ≤ mxF m p ∧ mxF m p ≤ 15 := by
  intro m hm
  obtain ⟨h1, h2, h3⟩ := mxF_ge m p
  rcases h3 with h3 | h3
  · omega
  · have := hb _ h3; omega
theorem fitX_pos {B D x : Int} (h : 0 < x) (h2 : ¬ x * B - D < 1) : fitX B D x = true := by unfold fitX; simp [h2]
theorem fitX_zero {B D x : Int} (h : ¬ 0 < x) : fitX B D x = true := by unfold fitX; simp [h]
theorem fitX_bad {B D x : Int} (h : 0 < x) (h2 : x * B - D < 1) : fitX B D x = false := by unfold fitX; simp [h, h2]
set_option maxHeartbeats 2000000 in
set_option maxRecDepth 100000 in
theorem c_impl_fits (p : List Int) (B D : Int) (v : Value) (w : World) (hr : RdI w v p) (hb : ∀ x ∈ p, 0 ≤ x ∧ x ≤ 15) (hB : 2 ≤ B ∧ B ≤ 30) (hD : 1 ≤ D ∧ D ≤ 60) :
    Calls Try.prog 139 #[.agg #[.int .i64 B, .int .i64 D], v] w fun e w' => e = .returned (.bool (fitsP p B D)) ∧ Below w.heap.size w w' := by
  obtain ⟨W0, hW0, k0, k1, B0⟩ := oneState w 54 B D
  have hr0 := hr.below B0
  obtain ⟨a1, cap1, rfl, hl1, hc1⟩ := hr0
  have HB := Lib.hid (fun k hk => hb _ (at_mem (p := p) (i := k) hk))
  clear hb hr
  go_enter Try.func139, Try.ntmps139
  go_wp2_with fail
  rw [← hW0]
  clear hW0
  go_wp2
  go_loopw [9] (fun i wr => ∃ k : Nat, k ≤ p.length ∧ i = .int .i64 k ∧ Hid ((p.take k).all (fitX B D) = true) ∧ W0 = wr) (fun i _ => p.length - (intOf i).toNat)
  case atStart => exact ⟨0, by omega, rfl, Lib.hid rfl, by trivial⟩
  case round =>
    obtain ⟨k, hk, rfl, HA, rfl⟩ := hrel
    by_cases hlt : k < p.length
    · obtain ⟨b1, o1, rfl, hx⟩ := hc1 k hlt
      have hbd := HB.out k hlt
      have HY := Lib.hid (fun hx => fits_take (B := B) (D := D) hlt HA.out hx)
      have HN := Lib.hid (fun hx => fits_no (B := B) (D := D) hlt hx)
      obtain ⟨x, Hx⟩ : ∃ x, Hid (p.getD k 0 = x) := ⟨_, Lib.hid rfl⟩
      rw [Hx.out] at hx hbd HY HN
      have hm := bt_bd (b := x) (M := 15) (by omega) hB
      obtain ⟨M, HM⟩ : ∃ M, Hid (x * B = M) := ⟨_, Lib.hid rfl⟩
      rw [HM.out] at hm
      have hw1 : IntKind.i64.wrap (x * B) = M := by rw [HM.out]; exact IntWalk.i64_in _ (by omega)
      clear hc1
      by_cases h0 : 0 < x
      · by_cases h1 : M - D < 1
        · have HF := Lib.hid (HN.out (fitX_bad h0 (by rw [HM.out]; exact h1)))
          go_wp2
          go_ret
          exact ⟨by rw [HF.out]; rfl, B0⟩
        · have HF := Lib.hid (HY.out (fitX_pos h0 (by rw [HM.out]; exact h1)))
          go_wp2
          go_roundw
          case rel => exact ⟨k + 1, by omega, by go_num, HF, by trivial⟩
          case measure => simp [intOf]; omega
      · have HF := Lib.hid (HY.out (fitX_zero h0))
        go_wp2
        go_roundw
        case rel => exact ⟨k + 1, by omega, by go_num, HF, by trivial⟩
        case measure => simp [intOf]; omega
    · have HF : Hid (fitsP p B D = true) := by
        have h := HA.out
        rw [List.take_of_length_le (by omega)] at h
        exact h
      clear hc1
      go_wp2
      go_ret
      exact ⟨by rw [HF.out]; rfl, B0⟩
theorem c_spec_l00MinF (a b : Int) (w : World) :
    Calls Try.prog 168 #[.int .i64 a, .int .i64 b] w fun e w' => e = .returned (.int .i64 (if a < b then a else b)) ∧ w = w' := by
  by_cases h : a < b
  · have HR : Hid ((if a < b then a else b) = a) := by unfold Hid; rw [if_pos h]
    go_enter Try.func168, Try.ntmps168
    go_wp2
    go_ret
    exact ⟨rfl, rfl⟩
  · have HR : Hid ((if a < b then a else b) = b) := by unfold Hid; rw [if_neg h]
    go_enter Try.func168, Try.ntmps168
    go_wp2
    go_ret
    exact ⟨rfl, rfl⟩
set_option maxHeartbeats 2000000 in
set_option maxRecDepth 100000 in
theorem c_spec_l15Most (p : List Int) (B : Int) (v : Value) (w : World) (hr : RdI w v p) (hb : ∀ x ∈ p, 0 ≤ x ∧ x ≤ 15) (hB : 2 ≤ B ∧ B ≤ 30) :
    Calls Try.prog 166 #[v, .int .i64 B] w fun e w' => e = .returned (.int .i64 (mostTo p B p.length)) ∧ w = w' := by
  obtain ⟨a1, cap1, rfl, hl1, hc1⟩ := hr
  have HB := Lib.hid (fun k hk => hb _ (at_mem (p := p) (i := k) hk))
  have HM := Lib.hid (mostTo_bd hB hb)
  clear hb
  have H0 : Hid (mostTo p B 0 = 2 * B) := rfl
  go_enter Try.func166, Try.ntmps166
  go_wp2
  go_loopw [5, 6] (fun m i wr => ∃ k : Nat, k ≤ p.length ∧ i = .int .i64 k ∧ m = .int .i64 (mostTo p B k) ∧ w = wr) (fun _ i _ => p.length - (intOf i).toNat)
  case atStart => exact ⟨0, by omega, rfl, by rw [H0.out], by trivial⟩
  case round =>
    obtain ⟨k, hk, rfl, rfl, rfl⟩ := hrel
    have hmb := HM.out k
    by_cases hlt : k < p.length
    · obtain ⟨b1, o1, rfl, hx⟩ := hc1 k hlt
      have hbd := HB.out k hlt
      have HS := Lib.hid (mostTo_succ (B := B) hlt)
      obtain ⟨x, Hx⟩ : ∃ x, Hid (p.getD k 0 = x) := ⟨_, Lib.hid rfl⟩
      rw [Hx.out] at hx hbd HS
      have hm := bt_bd (b := x) (M := 15) (by omega) hB
      obtain ⟨M, HM2⟩ : ∃ M, Hid (x * B = M) := ⟨_, Lib.hid rfl⟩
      rw [HM2.out] at hm
      have hw1 : IntKind.i64.wrap (x * B) = M := by rw [HM2.out]; exact IntWalk.i64_in _ (by omega)
      generalize mostTo p B k = m at *
      clear hc1
      by_cases h0 : 0 < x
      · have HS2 : Hid (mostTo p B (k + 1) = if m < M - 1 then m else M - 1) := by
          unfold Hid
          rw [HS.out]
          unfold mostX
          rw [if_pos h0, HM2.out]
        go_wp2_with fail
        refine (c_spec_l00MinF _ _ _).mono ?_; rintro e w2 ⟨rfl, rfl⟩
        go_wp2
        go_roundw
        case rel => exact ⟨k + 1, by omega, by go_num, by rw [HS2.out], by trivial⟩
        case measure => simp [intOf]; omega
      · have HS2 : Hid (mostTo p B (k + 1) = m) := by
          unfold Hid
          rw [HS.out]
          unfold mostX
          rw [if_neg h0]
        go_wp2
        go_roundw
        case rel => exact ⟨k + 1, by omega, by go_num, by rw [HS2.out], by trivial⟩
        case measure => simp [intOf]; omega
    · obtain rfl : k = p.length := by omega
      clear hc1
      go_wp2
      go_ret
      exact ⟨rfl, rfl⟩
end Go.Proofs.Ytddfdppoclnpcaa
