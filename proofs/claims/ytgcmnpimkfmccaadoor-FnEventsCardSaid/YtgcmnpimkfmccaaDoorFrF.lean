/- FrF, FrG, FrH: laid one behind the other. -/
import Derived.Test.YtgcmnpimkfmccaaDoorFrA
import Derived.Test.YtgcmnpimkfmccaaDoorPatU
import Derived.Test.YtgcmnpimkfmccaaDoorValidT
import Derived.BigQuiet
import Derived.Deep.QuietTactic
section
set_option linter.unusedVariables false
namespace Go.Proofs.YtgcmnpimkfmccaaDoor
open Go.ChangeShapes Go.WideShapes Go.ChangeAt Go.RowKit
set_option linter.unusedSimpArgs false
/-- each throw that is not 0 flies for a tick at least -/
def fitX (B D x : Int) : Bool := !(decide (0 < x) && decide (x * B - D < 1))
def fitsP (p : List Int) (B D : Int) : Bool := p.all (fitX B D)
theorem fits_yes {p : List Int} {B D : Int} : fitsP p B D = true ↔ ∀ x ∈ p, 0 < x → 1 ≤ x * B - D := by
  unfold fitsP fitX
  simp only [List.all_eq_true, Bool.not_eq_true', Bool.and_eq_false_iff, decide_eq_false_iff_not]
  constructor
  · intro h x hx h0
    rcases h x hx with h1 | h1 <;> omega
  · intro h x hx
    by_cases h0 : 0 < x
    · right; have := h x hx h0; omega
    · exact Or.inl h0
theorem fits_take {p : List Int} {B D : Int} {k : Nat} (hk : k < p.length) (h : (p.take k).all (fitX B D) = true) (hx : fitX B D (p.getD k 0) = true) : (p.take (k + 1)).all (fitX B D) = true := by
  have e : p.getD k 0 = p[k] := by simp [List.getD, hk]
  rw [e] at hx
  rw [List.take_add_one, List.getElem?_eq_getElem hk]
  simp only [Option.toList, List.all_append, h, Bool.true_and, List.all_cons, List.all_nil, Bool.and_true]
  exact hx
theorem fits_no {p : List Int} {B D : Int} {k : Nat} (hk : k < p.length) (hx : fitX B D (p.getD k 0) = false) : fitsP p B D = false := by
  have e : p.getD k 0 = p[k] := by simp [List.getD, hk]
  rw [e] at hx
  rw [← Bool.not_eq_true]
  intro h
  have := List.all_eq_true.1 h _ (List.getElem_mem hk)
  rw [hx] at this
  cases this
/-- the longest dwell time -/
def mostX (B m x : Int) : Int := if 0 < x then (if m < x * B - 1 then m else x * B - 1) else m
def mostTo (p : List Int) (B : Int) (k : Nat) : Int := (p.take k).foldl (mostX B) (2 * B)
theorem mostTo_succ {p : List Int} {B : Int} {k : Nat} (hk : k < p.length) : mostTo p B (k + 1) = mostX B (mostTo p B k) (p.getD k 0) := by
  have e : p.getD k 0 = p[k] := by simp [List.getD, hk]
  unfold mostTo
  rw [List.take_add_one, List.getElem?_eq_getElem hk, e]
  simp only [Option.toList, List.foldl_append, List.foldl_cons, List.foldl_nil]
theorem most_le (B D : Int) : ∀ (l : List Int) (m : Int), D ≤ l.foldl (mostX B) m ↔ D ≤ m ∧ ∀ x ∈ l, 0 < x → D ≤ x * B - 1
  | [], m => by simp
  | x :: l, m => by
    rw [List.foldl_cons, most_le B D l]
    have hx : D ≤ mostX B m x ↔ D ≤ m ∧ (0 < x → D ≤ x * B - 1) := by
      unfold mostX
      by_cases h0 : 0 < x
      · rw [if_pos h0]
        split
        · constructor
          · intro h; exact ⟨h, fun _ => by omega⟩
          · exact fun h => h.1
        · constructor
          · intro h; exact ⟨by omega, fun _ => h⟩
          · exact fun h => h.2 h0
      · rw [if_neg h0]
        constructor
        · exact fun h => ⟨h, fun h1 => absurd h1 h0⟩
        · exact fun h => h.1
    rw [hx]
    simp only [List.mem_cons, forall_eq_or_imp]
    constructor
    · rintro ⟨⟨h1, h2⟩, h3⟩; exact ⟨h1, h2, h3⟩
    · rintro ⟨h1, h2, h3⟩; exact ⟨⟨h1, h2⟩, h3⟩
theorem most_fits {p : List Int} {B D : Int} (hD : D ≤ 2 * B) : decide (D ≤ mostTo p B p.length) = fitsP p B D := by
  have h : D ≤ mostTo p B p.length ↔ fitsP p B D = true := by
    unfold mostTo
    rw [List.take_length, most_le, fits_yes]
    constructor
    · rintro ⟨-, h⟩ x hx h0; have := h x hx h0; omega
    · intro h; exact ⟨hD, fun x hx h0 => by have := h x hx h0; omega⟩
  cases hf : fitsP p B D
  · rw [decide_eq_false_iff_not, h, hf]; decide
  · rw [decide_eq_true_iff, h, hf]
theorem mostTo_bd {p : List Int} {B : Int} (hB : 2 ≤ B ∧ B ≤ 30) (hb : ∀ x ∈ p, 0 ≤ x ∧ x ≤ 15) : ∀ k, 0 ≤ mostTo p B k ∧ mostTo p B k ≤ 60
  | 0 => by unfold mostTo; rw [List.take_zero]; show 0 ≤ 2 * B ∧ 2 * B ≤ 60; omega
  | k + 1 => by
    have ih := mostTo_bd hB hb k
    by_cases hk : k < p.length
    · rw [mostTo_succ hk]
      have hx := hb _ (at_mem (p := p) (i := k) hk)
      generalize p.getD k 0 = x at *
      unfold mostX
      split
      · split
        · exact ih
        · rename_i h0 h1
          have : 1 * 2 ≤ x * B := Int.mul_le_mul (by omega) hB.1 (by omega) (by omega)
          omega
      · exact ih
    · have : mostTo p B (k + 1) = mostTo p B k := by
        unfold mostTo
        rw [List.take_of_length_le (by omega), List.take_of_length_le (by omega)]
      rw [this]; exact ih
def fCode (p : List Int) (B D x : Int) : Int := if validP p = false then 1 else if validT B D = false ∨ inB x 0 16 = false then 2 else if fitsP p B D = false ∨ 40 < mxF 0 p * B - D then 6 else 0
def frCode (p : List Int) (B D x t : Int) : Int := if fCode p B D x ≠ 0 then fCode p B D x else if inB t 0 3000 = false then 2 else 0
theorem fc1 {p : List Int} {B D x : Int} (h : validP p = false) : Hid (fCode p B D x = 1) := by unfold Hid fCode; rw [if_pos h]
theorem fc2 {p : List Int} {B D x : Int} (h : validP p = true) (h2 : validT B D = false ∨ inB x 0 16 = false) : Hid (fCode p B D x = 2) := by unfold Hid fCode; rw [if_neg (by simp [h]), if_pos h2]
theorem fc6 {p : List Int} {B D x : Int} (h : validP p = true) (h2 : validT B D = true) (h3 : inB x 0 16 = true) (h4 : fitsP p B D = false ∨ 40 < mxF 0 p * B - D) : Hid (fCode p B D x = 6) := by unfold Hid fCode; rw [if_neg (by simp [h]), if_neg (by simp [h2, h3]), if_pos h4]
theorem fc0 {p : List Int} {B D x : Int} (h : validP p = true) (h2 : validT B D = true) (h3 : inB x 0 16 = true) (h4 : fitsP p B D = true) (h5 : ¬ 40 < mxF 0 p * B - D) : Hid (fCode p B D x = 0) := by unfold Hid fCode; rw [if_neg (by simp [h]), if_neg (by simp [h2, h3]), if_neg (by simp [h4, h5])]
theorem validT_bd {B D : Int} (h : validT B D = true) : (2 ≤ B ∧ B ≤ 30) ∧ 1 ≤ D ∧ D ≤ 2 * B := by
  unfold validT at h
  simp only [Bool.and_eq_true] at h
  exact ⟨inB_iff.1 h.1, inB_iff.1 h.2⟩
theorem mx_bd {p : List Int} (hb : ∀ x ∈ p, 0 ≤ x ∧ x ≤ 15) : ∀ {m : Int}, 0 ≤ m ∧ m ≤ 15 → 0 ≤ mxF m p ∧ mxF m p ≤ 15 := by
  intro m hm
  obtain ⟨h1, h2, h3⟩ := mxF_ge m p
  rcases h3 with h3 | h3
  · omega
  · have := hb _ h3; omega
theorem fitX_pos {B D x : Int} (h : 0 < x) (h2 : ¬ x * B - D < 1) : fitX B D x = true := by unfold fitX; simp [h2]
theorem fitX_zero {B D x : Int} (h : ¬ 0 < x) : fitX B D x = true := by unfold fitX; simp [h]
theorem fitX_bad {B D x : Int} (h : 0 < x) (h2 : x * B - D < 1) : fitX B D x = false := by unfold fitX; simp [h, h2]
set_option maxHeartbeats 2000000 in
set_option maxRecDepth 100000 in
theorem c_impl_fits (p : List Int) (B D : Int) (v : Value) (w : World) (hr : RdI w v p) (hb : ∀ x ∈ p, 0 ≤ x ∧ x ≤ 15) (hB : 2 ≤ B ∧ B ≤ 30) (hD : 1 ≤ D ∧ D ≤ 60) :
    Calls Tryd.prog 62 #[.agg #[.int .i64 B, .int .i64 D], v] w fun e w' => e = .returned (.bool (fitsP p B D)) ∧ Below w.heap.size w w' := by
  obtain ⟨W0, hW0, k0, k1, B0⟩ := oneState w 26 B D
  have hr0 := hr.below B0
  obtain ⟨a1, cap1, rfl, hl1, hc1⟩ := hr0
  have HB := Lib.hid (fun k hk => hb _ (at_mem (p := p) (i := k) hk))
  clear hb hr
  go_enter Tryd.func62, Tryd.ntmps62
  go_wp2_with fail
  rw [← hW0]
  clear hW0
  go_wp2
  go_loopw [9] (fun i wr => ∃ k : Nat, k ≤ p.length ∧ i = .int .i64 k ∧ Hid ((p.take k).all (fitX B D) = true) ∧ W0 = wr) (fun i _ => p.length - (intOf i).toNat)
  case atStart => exact ⟨0, by omega, rfl, Lib.hid rfl, by trivial⟩
  case round =>
    obtain ⟨k, hk, rfl, HA, rfl⟩ := hrel
    by_cases hlt : k < p.length
    · obtain ⟨b1, o1, rfl, hx⟩ := hc1 k hlt
      have hbd := HB.out k hlt
      have HY := Lib.hid (fun hx => fits_take (B := B) (D := D) hlt HA.out hx)
      have HN := Lib.hid (fun hx => fits_no (B := B) (D := D) hlt hx)
      obtain ⟨x, Hx⟩ : ∃ x, Hid (p.getD k 0 = x) := ⟨_, Lib.hid rfl⟩
      rw [Hx.out] at hx hbd HY HN
      have hm := bt_bd (b := x) (M := 15) (by omega) hB
      obtain ⟨M, HM⟩ : ∃ M, Hid (x * B = M) := ⟨_, Lib.hid rfl⟩
      rw [HM.out] at hm
      have hw1 : IntKind.i64.wrap (x * B) = M := by rw [HM.out]; exact IntWalk.i64_in _ (by omega)
      clear hc1
      by_cases h0 : 0 < x
      · by_cases h1 : M - D < 1
        · have HF := Lib.hid (HN.out (fitX_bad h0 (by rw [HM.out]; exact h1)))
          go_wp2
          go_ret
          exact ⟨by rw [HF.out]; rfl, B0⟩
        · have HF := Lib.hid (HY.out (fitX_pos h0 (by rw [HM.out]; exact h1)))
          go_wp2
          go_roundw
          case rel => exact ⟨k + 1, by omega, by go_num, HF, by trivial⟩
          case measure => simp [intOf]; omega
      · have HF := Lib.hid (HY.out (fitX_zero h0))
        go_wp2
        go_roundw
        case rel => exact ⟨k + 1, by omega, by go_num, HF, by trivial⟩
        case measure => simp [intOf]; omega
    · have HF : Hid (fitsP p B D = true) := by
        have h := HA.out
        rw [List.take_of_length_le (by omega)] at h
        exact h
      clear hc1
      go_wp2
      go_ret
      exact ⟨by rw [HF.out]; rfl, B0⟩
theorem c_spec_l00MinF (a b : Int) (w : World) :
    Calls Tryd.prog 57 #[.int .i64 a, .int .i64 b] w fun e w' => e = .returned (.int .i64 (if a < b then a else b)) ∧ w = w' := by
  by_cases h : a < b
  · have HR : Hid ((if a < b then a else b) = a) := by unfold Hid; rw [if_pos h]
    go_enter Tryd.func57, Tryd.ntmps57
    go_wp2
    go_ret
    exact ⟨rfl, rfl⟩
  · have HR : Hid ((if a < b then a else b) = b) := by unfold Hid; rw [if_neg h]
    go_enter Tryd.func57, Tryd.ntmps57
    go_wp2
    go_ret
    exact ⟨rfl, rfl⟩
set_option maxHeartbeats 2000000 in
set_option maxRecDepth 100000 in
theorem c_spec_l15Most (p : List Int) (B : Int) (v : Value) (w : World) (hr : RdI w v p) (hb : ∀ x ∈ p, 0 ≤ x ∧ x ≤ 15) (hB : 2 ≤ B ∧ B ≤ 30) :
    Calls Tryd.prog 33 #[v, .int .i64 B] w fun e w' => e = .returned (.int .i64 (mostTo p B p.length)) ∧ w = w' := by
  obtain ⟨a1, cap1, rfl, hl1, hc1⟩ := hr
  have HB := Lib.hid (fun k hk => hb _ (at_mem (p := p) (i := k) hk))
  have HM := Lib.hid (mostTo_bd hB hb)
  clear hb
  have H0 : Hid (mostTo p B 0 = 2 * B) := rfl
  go_enter Tryd.func33, Tryd.ntmps33
  go_wp2
  go_loopw [5, 6] (fun m i wr => ∃ k : Nat, k ≤ p.length ∧ i = .int .i64 k ∧ m = .int .i64 (mostTo p B k) ∧ w = wr) (fun _ i _ => p.length - (intOf i).toNat)
  case atStart => exact ⟨0, by omega, rfl, by rw [H0.out], by trivial⟩
  case round =>
    obtain ⟨k, hk, rfl, rfl, rfl⟩ := hrel
    have hmb := HM.out k
    by_cases hlt : k < p.length
    · obtain ⟨b1, o1, rfl, hx⟩ := hc1 k hlt
      have hbd := HB.out k hlt
      have HS := Lib.hid (mostTo_succ (B := B) hlt)
      obtain ⟨x, Hx⟩ : ∃ x, Hid (p.getD k 0 = x) := ⟨_, Lib.hid rfl⟩
      rw [Hx.out] at hx hbd HS
      have hm := bt_bd (b := x) (M := 15) (by omega) hB
      obtain ⟨M, HM2⟩ : ∃ M, Hid (x * B = M) := ⟨_, Lib.hid rfl⟩
      rw [HM2.out] at hm
      have hw1 : IntKind.i64.wrap (x * B) = M := by rw [HM2.out]; exact IntWalk.i64_in _ (by omega)
      generalize mostTo p B k = m at *
      clear hc1
      by_cases h0 : 0 < x
      · have HS2 : Hid (mostTo p B (k + 1) = if m < M - 1 then m else M - 1) := by
          unfold Hid
          rw [HS.out]
          unfold mostX
          rw [if_pos h0, HM2.out]
        go_wp2_with fail
        refine (c_spec_l00MinF _ _ _).mono ?_; rintro e w2 ⟨rfl, rfl⟩
        go_wp2
        go_roundw
        case rel => exact ⟨k + 1, by omega, by go_num, by rw [HS2.out], by trivial⟩
        case measure => simp [intOf]; omega
      · have HS2 : Hid (mostTo p B (k + 1) = m) := by
          unfold Hid
          rw [HS.out]
          unfold mostX
          rw [if_neg h0]
        go_wp2
        go_roundw
        case rel => exact ⟨k + 1, by omega, by go_num, by rw [HS2.out], by trivial⟩
        case measure => simp [intOf]; omega
    · obtain rfl : k = p.length := by omega
      clear hc1
      go_wp2
      go_ret
      exact ⟨rfl, rfl⟩
end Go.Proofs.YtgcmnpimkfmccaaDoor
end
section
set_option linter.unusedVariables false
namespace Go.Proofs.YtgcmnpimkfmccaaDoor
open Go.ChangeShapes Go.WideShapes Go.ChangeAt Go.RowKit
set_option linter.unusedSimpArgs false
theorem quiet_q {P : Program} {f : FuncId} {args : Array Value} {w : World} {n : Nat} {v : Value} (h : Calls P f args (w.drewN n) fun e w' => e = .returned v ∧ w.drewN n = w') : Calls P f args (w.drewN n) fun e w'' => e = .returned v ∧ ∃ m, w'' = w.drewN m :=
  Calls.quiet_of_same (h.mono fun _ _ ⟨h1, h2⟩ => ⟨h1, h2.symm⟩)
set_option maxHeartbeats 2000000 in
theorem c_spec_l15Fits (p : List Int) (B D : Int) (v : Value) (w : World) (hr : RdI w v p) (hb : ∀ x ∈ p, 0 ≤ x ∧ x ≤ 15) (hB : 2 ≤ B ∧ B ≤ 30) (hD : D ≤ 2 * B) :
    Calls Tryd.prog 59 #[v, .agg #[.int .i64 B, .int .i64 D]] w fun e w' => e = .returned (.bool (fitsP p B D)) ∧ Below w.heap.size w w' := by
  obtain ⟨W0, hW0, k0, k1, B0⟩ := oneState w 26 B D
  have HR : Hid (RdI W0 v p) := Lib.hid (hr.below B0)
  have HB := Lib.hid hb
  have HF := Lib.hid (most_fits (p := p) hD)
  clear hr hb
  go_enter Tryd.func59, Tryd.ntmps59
  go_wp2_with fail
  rw [← hW0]
  clear hW0
  go_quiet ((go_at_call 33; exact quiet_q (c_spec_l15Most p B v _ HR.out HB.out hB)))
  go_wp2
  go_ret
  exact ⟨by rw [← HF.out]; rfl, by first | exact B0 | exact B0.drN _⟩
def lCode (p : List Int) (B D : Int) (c : Bool) : Int := if validP p = false then 1 else if validT B D = false ∨ c = false then 2 else if fitsP p B D = false then 6 else 0
theorem lc1 {p : List Int} {B D : Int} (c : Bool) (h : validP p = false) : Hid (lCode p B D c = 1) := by unfold Hid lCode; rw [if_pos h]
theorem lc2 {p : List Int} {B D : Int} {c : Bool} (h : validP p = true) (h2 : validT B D = false ∨ c = false) : Hid (lCode p B D c = 2) := by unfold Hid lCode; rw [if_neg (by simp [h]), if_pos h2]
theorem lc6 {p : List Int} {B D : Int} (h : validP p = true) (h2 : validT B D = true) (h4 : fitsP p B D = false) : Hid (lCode p B D true = 6) := by unfold Hid lCode; rw [if_neg (by simp [h]), if_neg (by simp [h2]), if_pos h4]
theorem lc0 {p : List Int} {B D : Int} (h : validP p = true) (h2 : validT B D = true) (h4 : fitsP p B D = true) : Hid (lCode p B D true = 0) := by unfold Hid lCode; rw [if_neg (by simp [h]), if_neg (by simp [h2]), if_neg (by simp [h4])]
set_option maxHeartbeats 2000000 in
theorem c_spec_l15Code (p : List Int) (B D : Int) (c : Bool) (v : Value) (w : World) (hr : RdI w v p) :
    Calls Tryd.prog 36 #[v, .agg #[.int .i64 B, .int .i64 D], .bool c] w fun e w' => e = .returned (.int .i64 (lCode p B D c)) ∧ Below w.heap.size w w' := by
  obtain ⟨W0, hW0, k0, k1, B0⟩ := oneState w 26 B D
  have HR : Hid (RdI W0 v p) := Lib.hid (hr.below B0)
  clear hr
  cases hv : validP p
  · have HC := lc1 (B := B) (D := D) c hv
    go_enter Tryd.func36, Tryd.ntmps36
    go_wp2_with fail
    rw [← hW0]
    clear hW0
    refine (c_spec_l02Ok p _ _ HR.out).mono ?_; rintro e w2 ⟨rfl, hb2⟩; rw [hv]
    go_wp2
    go_ret
    exact ⟨by rw [HC.out]; rfl, B0.tr hb2⟩
  · cases ht : validT B D
    · have HC := lc2 (c := c) hv (Or.inl ht)
      go_enter Tryd.func36, Tryd.ntmps36
      go_wp2_with fail
      rw [← hW0]
      clear hW0
      refine (c_spec_l02Ok p _ _ HR.out).mono ?_; rintro e w2 ⟨rfl, hb2⟩; rw [hv]
      have k0 := keepc hb2 k0
      have k1 := keepc hb2 k1
      go_wp2_with fail
      refine (c_spec_l15Ok B D _).mono ?_; rintro e w3 ⟨rfl, hb3⟩; rw [ht]
      go_wp2
      go_ret
      exact ⟨by rw [HC.out]; rfl, (B0.tr hb2).tr hb3⟩
    · cases c
      · have HC := lc2 (B := B) (D := D) (c := false) hv (Or.inr rfl)
        go_enter Tryd.func36, Tryd.ntmps36
        go_wp2_with fail
        rw [← hW0]
        clear hW0
        refine (c_spec_l02Ok p _ _ HR.out).mono ?_; rintro e w2 ⟨rfl, hb2⟩; rw [hv]
        have k0 := keepc hb2 k0
        have k1 := keepc hb2 k1
        go_wp2_with fail
        refine (c_spec_l15Ok B D _).mono ?_; rintro e w3 ⟨rfl, hb3⟩; rw [ht]
        go_wp2
        go_ret
        exact ⟨by rw [HC.out]; rfl, (B0.tr hb2).tr hb3⟩
      · obtain ⟨hB, hD⟩ := validT_bd ht
        have hbd := (validP_iff.1 hv).1.1
        cases hf : fitsP p B D
        · have HC := lc6 hv ht hf
          go_enter Tryd.func36, Tryd.ntmps36
          go_wp2_with fail
          rw [← hW0]
          clear hW0
          refine (c_spec_l02Ok p _ _ HR.out).mono ?_; rintro e w2 ⟨rfl, hb2⟩; rw [hv]
          have k0 := keepc hb2 k0
          have k1 := keepc hb2 k1
          go_wp2_with fail
          refine (c_spec_l15Ok B D _).mono ?_; rintro e w3 ⟨rfl, hb3⟩; rw [ht]
          have k0 := keepc hb3 k0
          have k1 := keepc hb3 k1
          go_wp2_with fail
          refine (c_spec_l15Fits p B D _ _ ((HR.out.below hb2).below hb3) hbd hB hD.2).mono ?_; rintro e w4 ⟨rfl, hb4⟩; rw [hf]
          go_wp2
          go_ret
          exact ⟨by rw [HC.out]; rfl, ((B0.tr hb2).tr hb3).tr hb4⟩
        · have HC := lc0 hv ht hf
          go_enter Tryd.func36, Tryd.ntmps36
          go_wp2_with fail
          rw [← hW0]
          clear hW0
          refine (c_spec_l02Ok p _ _ HR.out).mono ?_; rintro e w2 ⟨rfl, hb2⟩; rw [hv]
          have k0 := keepc hb2 k0
          have k1 := keepc hb2 k1
          go_wp2_with fail
          refine (c_spec_l15Ok B D _).mono ?_; rintro e w3 ⟨rfl, hb3⟩; rw [ht]
          have k0 := keepc hb3 k0
          have k1 := keepc hb3 k1
          go_wp2_with fail
          refine (c_spec_l15Fits p B D _ _ ((HR.out.below hb2).below hb3) hbd hB hD.2).mono ?_; rintro e w4 ⟨rfl, hb4⟩; rw [hf]
          go_wp2
          go_ret
          exact ⟨by rw [HC.out]; rfl, ((B0.tr hb2).tr hb3).tr hb4⟩
theorem fCode_l {p : List Int} {B D x : Int} : fCode p B D x = if lCode p B D (inB x 0 16) ≠ 0 then lCode p B D (inB x 0 16) else if 40 < mxF 0 p * B - D then 6 else 0 := by
  unfold fCode lCode
  cases validP p
  · simp
  · cases validT B D
    · simp
    · cases inB x 0 16
      · simp
      · cases fitsP p B D
        · simp
        · simp
theorem lCode_ok {p : List Int} {B D : Int} {c : Bool} (h : lCode p B D c = 0) : validP p = true ∧ validT B D = true := by
  unfold lCode at h
  cases hv : validP p
  · rw [hv] at h; simp at h
  · cases ht : validT B D
    · rw [hv, ht] at h; simp at h
    · exact ⟨rfl, rfl⟩
theorem lCode_bd (p : List Int) (B D : Int) (c : Bool) : 0 ≤ lCode p B D c ∧ lCode p B D c ≤ 6 := by
  unfold lCode
  split
  · omega
  · split
    · omega
    · split <;> omega
theorem fCode_ne {p : List Int} {B D x : Int} (h : lCode p B D (inB x 0 16) ≠ 0) : Hid (fCode p B D x = lCode p B D (inB x 0 16)) := by unfold Hid; rw [fCode_l, if_pos h]
theorem fCode_hi {p : List Int} {B D x : Int} (h : lCode p B D (inB x 0 16) = 0) (h2 : 40 < mxF 0 p * B - D) : Hid (fCode p B D x = 6) := by unfold Hid; rw [fCode_l, if_neg (by simp [h]), if_pos h2]
theorem fCode_lo {p : List Int} {B D x : Int} (h : lCode p B D (inB x 0 16) = 0) (h2 : ¬ 40 < mxF 0 p * B - D) : Hid (fCode p B D x = 0) := by unfold Hid; rw [fCode_l, if_neg (by simp [h]), if_neg h2]
set_option maxHeartbeats 2000000 in
set_option maxRecDepth 100000 in
theorem c_spec_l16Ask (p : List Int) (B D x : Int) (v : Value) (w : World) (hr : RdI w v p) :
    Calls Tryd.prog 13 #[v, .agg #[.int .i64 B, .int .i64 D], .int .i64 x, .bool true] w fun e w' => e = .returned (.int .i64 (fCode p B D x)) ∧ Below w.heap.size w w' := by
  obtain ⟨W0, hW0, k0, k1, B0⟩ := oneState w 26 B D
  have HR : Hid (RdI W0 v p) := Lib.hid (hr.below B0)
  have hlb := lCode_bd p B D (inB x 0 16)
  clear hr
  by_cases hL : lCode p B D (inB x 0 16) = 0
  · obtain ⟨hv, ht⟩ := lCode_ok hL
    obtain ⟨hB, hD⟩ := validT_bd ht
    have hmx := mx_bd (validP_iff.1 hv).1.1 (m := 0) (by omega)
    have hm := bt_bd (b := mxF 0 p) (M := 15) (by omega) hB
    by_cases hh : 40 < mxF 0 p * B - D
    · have HC := fCode_hi hL hh
      have HL := Lib.hid hL
      have hRd : RdI W0.drew v p := HR.out
      obtain ⟨H, HH⟩ : ∃ H, Hid (mxF 0 p = H) := ⟨_, Lib.hid rfl⟩
      rw [HH.out] at hm hmx hh
      obtain ⟨M, HM⟩ : ∃ M, Hid (H * B = M) := ⟨_, Lib.hid rfl⟩
      rw [HM.out] at hm hh
      have hw1 : IntKind.i64.wrap (H * B) = M := by rw [HM.out]; exact IntWalk.i64_in _ (by omega)
      have hw2 : IntKind.i64.wrap (M - D) = M - D := IntWalk.i64_in _ (by omega)
      have th : decide (40 < M - D) = true := by simpa using hh
      clear hL hv ht
      go_enter Tryd.func13, Tryd.ntmps13
      go_wp2_with fail
      rw [← hW0]
      clear hW0
      go_region_held3 (fun w' => w'.cell? ⟨w.heap.size, 0, none⟩ = some (.int .i64 B) ∧ w'.cell? ⟨w.heap.size, 1, none⟩ = some (.int .i64 D))
        (go_keep)
        (first
          | ((go_at_call 23; refine (c_spec_l00In x 0 16 _).mono ?_; rintro e w1 ⟨rfl, rfl⟩))
          | ((go_at_call 36; refine (c_spec_l15Code p B D _ _ _ hRd).mono ?_; rintro e w2 ⟨rfl, hb2⟩; rw [HL.out]; have hb2 := below_drew hb2; have k0 := keepc hb2 k0; have k1 := keepc hb2 k1)))
      go_wp2_with fail
      have hR2 : RdI w2 v p := HR.out.below hb2
      have HR2 := Lib.hid hR2
      have HQ : Hid (∀ n, Calls Tryd.prog 37 #[v] (w2.drewN n) fun e w'' => e = .returned (.int .i64 H) ∧ ∃ m, w'' = w2.drewN m) := fun n => quiet_q (by have h := c_spec_l02High p v (w2.drewN n) HR2.out; rw [HH.out] at h; exact h)
      go_quiet ((go_at_call 37; exact HQ.out _))
      go_wp2
      go_ret
      exact ⟨by rw [HC.out]; rfl, by first | exact B0.tr hb2 | exact (B0.tr hb2).drN _⟩
    · have HC := fCode_lo hL hh
      have HL := Lib.hid hL
      have hRd : RdI W0.drew v p := HR.out
      obtain ⟨H, HH⟩ : ∃ H, Hid (mxF 0 p = H) := ⟨_, Lib.hid rfl⟩
      rw [HH.out] at hm hmx hh
      obtain ⟨M, HM⟩ : ∃ M, Hid (H * B = M) := ⟨_, Lib.hid rfl⟩
      rw [HM.out] at hm hh
      have hw1 : IntKind.i64.wrap (H * B) = M := by rw [HM.out]; exact IntWalk.i64_in _ (by omega)
      have hw2 : IntKind.i64.wrap (M - D) = M - D := IntWalk.i64_in _ (by omega)
      have th : decide (40 < M - D) = false := by simpa using hh
      clear hL hv ht
      go_enter Tryd.func13, Tryd.ntmps13
      go_wp2_with fail
      rw [← hW0]
      clear hW0
      go_region_held3 (fun w' => w'.cell? ⟨w.heap.size, 0, none⟩ = some (.int .i64 B) ∧ w'.cell? ⟨w.heap.size, 1, none⟩ = some (.int .i64 D))
        (go_keep)
        (first
          | ((go_at_call 23; refine (c_spec_l00In x 0 16 _).mono ?_; rintro e w1 ⟨rfl, rfl⟩))
          | ((go_at_call 36; refine (c_spec_l15Code p B D _ _ _ hRd).mono ?_; rintro e w2 ⟨rfl, hb2⟩; rw [HL.out]; have hb2 := below_drew hb2; have k0 := keepc hb2 k0; have k1 := keepc hb2 k1)))
      go_wp2_with fail
      have hR2 : RdI w2 v p := HR.out.below hb2
      have HR2 := Lib.hid hR2
      have HQ : Hid (∀ n, Calls Tryd.prog 37 #[v] (w2.drewN n) fun e w'' => e = .returned (.int .i64 H) ∧ ∃ m, w'' = w2.drewN m) := fun n => quiet_q (by have h := c_spec_l02High p v (w2.drewN n) HR2.out; rw [HH.out] at h; exact h)
      go_quiet ((go_at_call 37; exact HQ.out _))
      go_wp2
      go_ret
      exact ⟨by rw [HC.out]; rfl, by first | exact B0.tr hb2 | exact (B0.tr hb2).drN _⟩
  · have HC := fCode_ne hL
    have t0 : (lCode p B D (inB x 0 16) == 0) = false := by simpa using hL
    obtain ⟨L, HL⟩ : ∃ L, Hid (lCode p B D (inB x 0 16) = L) := ⟨_, Lib.hid rfl⟩
    rw [HL.out] at t0 HC hlb
    clear hL
    have hRd : RdI W0.drew v p := HR.out
    go_enter Tryd.func13, Tryd.ntmps13
    go_wp2_with fail
    rw [← hW0]
    clear hW0
    go_region_held3 (fun w' => w'.cell? ⟨w.heap.size, 0, none⟩ = some (.int .i64 B) ∧ w'.cell? ⟨w.heap.size, 1, none⟩ = some (.int .i64 D))
      (go_keep)
      (first
        | ((go_at_call 23; refine (c_spec_l00In x 0 16 _).mono ?_; rintro e w1 ⟨rfl, rfl⟩))
        | ((go_at_call 36; refine (c_spec_l15Code p B D _ _ _ hRd).mono ?_; rintro e w2 ⟨rfl, hb2⟩; rw [HL.out]; have hb2 := below_drew hb2; have k0 := keepc hb2 k0; have k1 := keepc hb2 k1)))
    go_wp2_with fail
    go_quiet (fail)
    go_wp2
    go_ret
    exact ⟨by rw [HC.out]; rfl, by first | exact B0.tr hb2 | exact (B0.tr hb2).drN _⟩
end Go.Proofs.YtgcmnpimkfmccaaDoor
end
section
set_option linter.unusedVariables false
namespace Go.Proofs.YtgcmnpimkfmccaaDoor
open Go.ChangeShapes Go.WideShapes Go.ChangeAt Go.RowKit
set_option linter.unusedSimpArgs false
theorem frCode_ok {p : List Int} {B D x t : Int} (h : frCode p B D x t = 0) : validP p = true ∧ validT B D = true ∧ (0 ≤ x ∧ x ≤ 16) ∧ (0 ≤ t ∧ t ≤ 3000) := by
  unfold frCode at h
  split at h
  · rename_i h0; exact absurd h h0
  · rename_i h0
    have h1 : fCode p B D x = 0 := by omega
    split at h
    · omega
    · rename_i h2
      unfold fCode at h1
      split at h1
      · omega
      · rename_i h3
        split at h1
        · omega
        · rename_i h4
          refine ⟨by simpa using h3, ?_, ?_, inB_iff.1 (by simpa using h2)⟩
          · cases h5 : validT B D
            · exact absurd (Or.inl h5) h4
            · rfl
          · apply inB_iff.1
            cases h5 : inB x 0 16
            · exact absurd (Or.inr h5) h4
            · rfl
theorem frCode_bd (p : List Int) (B D x t : Int) : 0 ≤ frCode p B D x t ∧ frCode p B D x t ≤ 6 := by
  have h : 0 ≤ fCode p B D x ∧ fCode p B D x ≤ 6 := by
    unfold fCode
    split
    · omega
    · split
      · omega
      · split <;> omega
  unfold frCode
  split
  · exact h
  · split <;> omega
theorem frC_ne {p : List Int} {B D x : Int} (t : Int) (h : fCode p B D x ≠ 0) : Hid (frCode p B D x t = fCode p B D x) := by unfold Hid frCode; rw [if_pos h]
theorem frC_no {p : List Int} {B D x t : Int} (h : fCode p B D x = 0) (h2 : inB t 0 3000 = false) : Hid (frCode p B D x t = 2) := by unfold Hid frCode; rw [if_neg (by simp [h]), if_pos h2]
theorem frC_ok {p : List Int} {B D x t : Int} (h : fCode p B D x = 0) (h2 : inB t 0 3000 = true) : Hid (frCode p B D x t = 0) := by unfold Hid frCode; rw [if_neg (by simp [h]), if_neg (by simp [h2])]
set_option maxHeartbeats 2000000 in
theorem c_spec_l26Code (p : List Int) (B D x t : Int) (v : Value) (w : World) (hr : RdI w v p) :
    Calls Tryd.prog 22 #[v, .agg #[.int .i64 B, .int .i64 D], .int .i64 x, .int .i64 t] w fun e w' => e = .returned (.int .i64 (frCode p B D x t)) ∧ Below w.heap.size w w' := by
  obtain ⟨W0, hW0, k0, k1, B0⟩ := oneState w 26 B D
  have HR : Hid (RdI W0 v p) := Lib.hid (hr.below B0)
  clear hr
  by_cases hL : fCode p B D x = 0
  · cases hi : inB t 0 3000
    · have HC := frC_no hL hi
      have HL := Lib.hid hL
      clear hL
      go_enter Tryd.func22, Tryd.ntmps22
      go_wp2_with fail
      rw [← hW0]
      clear hW0
      refine (c_spec_l16Ask p B D x _ _ HR.out).mono ?_; rintro e w2 ⟨rfl, hb2⟩; rw [HL.out]
      go_wp2_with fail
      refine (c_spec_l00In t 0 3000 _).mono ?_; rintro e w3 ⟨rfl, rfl⟩; rw [hi]
      go_wp2
      go_ret
      exact ⟨by rw [HC.out]; rfl, B0.tr hb2⟩
    · have HC := frC_ok hL hi
      have HL := Lib.hid hL
      clear hL
      go_enter Tryd.func22, Tryd.ntmps22
      go_wp2_with fail
      rw [← hW0]
      clear hW0
      refine (c_spec_l16Ask p B D x _ _ HR.out).mono ?_; rintro e w2 ⟨rfl, hb2⟩; rw [HL.out]
      go_wp2_with fail
      refine (c_spec_l00In t 0 3000 _).mono ?_; rintro e w3 ⟨rfl, rfl⟩; rw [hi]
      go_wp2
      go_ret
      exact ⟨by rw [HC.out]; rfl, B0.tr hb2⟩
  · have HC := frC_ne t hL
    have t0 : (fCode p B D x == 0) = false := by simpa using hL
    obtain ⟨L, HL⟩ : ∃ L, Hid (fCode p B D x = L) := ⟨_, Lib.hid rfl⟩
    rw [HL.out] at t0 HC
    clear hL
    go_enter Tryd.func22, Tryd.ntmps22
    go_wp2_with fail
    rw [← hW0]
    clear hW0
    refine (c_spec_l16Ask p B D x _ _ HR.out).mono ?_; rintro e w2 ⟨rfl, hb2⟩; rw [HL.out]
    go_wp2
    go_ret
    exact ⟨by rw [HC.out]; rfl, B0.tr hb2⟩
set_option maxHeartbeats 4000000 in
set_option maxRecDepth 100000 in
theorem c_impl_flightsCode (p : List Int) (B D x : Int) (v : Value) (w : World) (hr : RdI w v p) :
    Calls Tryd.prog 41 #[v, .agg #[.int .i64 B, .int .i64 D], .int .i64 x, .int .i64 0] w fun e w' => e = .returned (.int .i64 (fCode p B D x)) ∧ Below w.heap.size w w' := by
  obtain ⟨W0, hW0, k0, k1, B0⟩ := oneState w 26 B D
  have HR : Hid (RdI W0 v p) := Lib.hid (hr.below B0)
  have hz : inB 0 0 200 = true := by decide
  clear hr
  cases hv : validP p
  · have HC := fc1 (B := B) (D := D) (x := x) hv
    go_enter Tryd.func41, Tryd.ntmps41
    go_wp2_with fail
    rw [← hW0]
    clear hW0
    refine (c_impl_ValidPattern p _ _ HR.out).mono ?_; rintro e w2 ⟨rfl, hb2⟩; rw [hv]
    go_wp2
    go_ret
    exact ⟨by rw [HC.out]; rfl, B0.tr hb2⟩
  · cases ht : validT B D
    · have HC := fc2 (x := x) hv (Or.inl ht)
      go_enter Tryd.func41, Tryd.ntmps41
      go_wp2_with fail
      rw [← hW0]
      clear hW0
      refine (c_impl_ValidPattern p _ _ HR.out).mono ?_; rintro e w2 ⟨rfl, hb2⟩; rw [hv]
      have k0 := keepc hb2 k0
      have k1 := keepc hb2 k1
      go_wp2_with fail
      refine (c_impl_ValidTiming B D _).mono ?_; rintro e w3 ⟨rfl, hb3⟩; rw [ht]
      go_wp2
      go_ret
      exact ⟨by rw [HC.out]; rfl, (B0.tr hb2).tr hb3⟩
    · cases hx : inB x 0 16
      · have HC := fc2 (B := B) (D := D) hv (Or.inr hx)
        go_enter Tryd.func41, Tryd.ntmps41
        go_wp2_with fail
        rw [← hW0]
        clear hW0
        refine (c_impl_ValidPattern p _ _ HR.out).mono ?_; rintro e w2 ⟨rfl, hb2⟩; rw [hv]
        have k0 := keepc hb2 k0
        have k1 := keepc hb2 k1
        go_wp2_with fail
        refine (c_impl_ValidTiming B D _).mono ?_; rintro e w3 ⟨rfl, hb3⟩; rw [ht]
        go_wp2_with fail
        refine (c_impl_between x 0 16 _).mono ?_; rintro e w4 ⟨rfl, rfl⟩; rw [hx]
        go_wp2
        go_ret
        exact ⟨by rw [HC.out]; rfl, (B0.tr hb2).tr hb3⟩
      · obtain ⟨hB, hD⟩ := validT_bd ht
        have hbd := (validP_iff.1 hv).1.1
        have hDb : 1 ≤ D ∧ D ≤ 60 := by omega
        cases hf : fitsP p B D
        · have HC := fc6 hv ht hx (Or.inl hf)
          go_enter Tryd.func41, Tryd.ntmps41
          go_wp2_with fail
          rw [← hW0]
          clear hW0
          refine (c_impl_ValidPattern p _ _ HR.out).mono ?_; rintro e w2 ⟨rfl, hb2⟩; rw [hv]
          have k0 := keepc hb2 k0
          have k1 := keepc hb2 k1
          go_wp2_with fail
          refine (c_impl_ValidTiming B D _).mono ?_; rintro e w3 ⟨rfl, hb3⟩; rw [ht]
          have k0 := keepc hb3 k0
          have k1 := keepc hb3 k1
          go_wp2_with fail
          refine (c_impl_between x 0 16 _).mono ?_; rintro e w4 ⟨rfl, rfl⟩; rw [hx]
          go_wp2_with fail
          refine (c_impl_between 0 0 200 _).mono ?_; rintro e w4 ⟨rfl, rfl⟩; rw [hz]
          go_wp2_with fail
          have hR3 : RdI w3 v p := (HR.out.below hb2).below hb3
          refine wp_region_noPanic ?_
          refine wp_region_held_drew (S := fun w' => w'.cell? ⟨w.heap.size, 0, none⟩ = some (.int .i64 B) ∧ w'.cell? ⟨w.heap.size, 1, none⟩ = some (.int .i64 D)) (by kernel_rfl) ?_ (fun hHeld => ?_)
          · exact ⟨k0, k1⟩
          (refine wpAnyH_take (i := 0) (v := ?tv1) rfl (by kernel_rfl) (by kernel_rfl) (by kernel_rfl) (fun _ _ _ h => h) (Or.inl ⟨by rfl, ?thy1⟩) (by assumption) ?trest1; case thy1 => (intro w hSw; (try dsimp only at hSw); go_simp; (try with_reducible rfl)); (try simp only [Act.put, List.getElem_toArray, List.getElem_cons_zero, List.getElem_cons_succ, List.setIfInBounds_toArray, List.set_cons_zero, List.set_cons_succ])); (refine wpAnyH_take (i := 1) (v := ?tv2) rfl (by kernel_rfl) (by kernel_rfl) (by kernel_rfl) (fun _ _ _ h => h) (Or.inl ⟨by rfl, ?thy2⟩) (by assumption) ?trest2; case thy2 => (intro w hSw; (try dsimp only at hSw); go_simp; (try with_reducible rfl)); (try simp only [Act.put, List.getElem_toArray, List.getElem_cons_zero, List.getElem_cons_succ, List.setIfInBounds_toArray, List.set_cons_zero, List.set_cons_succ]))
          refine wpAnyH_ready (rs := [2]) (by kernel_rfl) (by simp) ?_; refine AllReadyH.cons (i := 2) rfl (fun K hK => ?_) AllReadyH.nil
          go_simp
          refine (c_impl_fits p B D _ _ (hR3.below ((Below.refl _ _).dr)) hbd hB hDb).mono ?_; rintro e w5 ⟨rfl, hb5⟩; rw [hf]
          have hb5' := below_drew hb5
          refine hK.out _ _ ⟨keepc hb5' k0, keepc hb5' k1⟩ (fun hHeld => ?_)
          clear hK K
          (try simp only [Act.put, List.getElem_toArray, List.getElem_cons_zero, List.getElem_cons_succ, List.setIfInBounds_toArray, List.set_cons_zero, List.set_cons_succ])
          (refine wpAnyH_take (i := 3) (v := ?tv3) rfl (by kernel_rfl) (by kernel_rfl) (by kernel_rfl) (fun _ _ _ h => h) (Or.inl ⟨by rfl, ?thy3⟩) (by assumption) ?trest3; case thy3 => (intro w hSw; (try dsimp only at hSw); go_simp; (try with_reducible rfl)); (try simp only [Act.put, List.getElem_toArray, List.getElem_cons_zero, List.getElem_cons_succ, List.setIfInBounds_toArray, List.set_cons_zero, List.set_cons_succ])); (refine wpAnyH_take (i := 4) (v := ?tv4) rfl (by kernel_rfl) (by kernel_rfl) (by kernel_rfl) (fun _ _ _ h => h) (Or.inl ⟨by rfl, ?thy4⟩) (by assumption) ?trest4; case thy4 => (intro w hSw; (try dsimp only at hSw); go_simp; (try with_reducible rfl)); (try simp only [Act.put, List.getElem_toArray, List.getElem_cons_zero, List.getElem_cons_succ, List.setIfInBounds_toArray, List.set_cons_zero, List.set_cons_succ]))
          (refine wpAnyH_take (i := 5) (v := undef) rfl (by kernel_rfl) (by kernel_rfl) (by kernel_rfl) (fun _ _ _ h => h) (Or.inr ⟨by kernel_rfl, rfl⟩) (by assumption) ?trest5); (try simp only [Act.put, List.getElem_toArray, List.getElem_cons_zero, List.getElem_cons_succ, List.setIfInBounds_toArray, List.set_cons_zero, List.set_cons_succ]); (refine wpAnyH_take (i := 6) (v := undef) rfl (by kernel_rfl) (by kernel_rfl) (by kernel_rfl) (fun _ _ _ h => h) (Or.inr ⟨by kernel_rfl, rfl⟩) (by assumption) ?trest6); (try simp only [Act.put, List.getElem_toArray, List.getElem_cons_zero, List.getElem_cons_succ, List.setIfInBounds_toArray, List.set_cons_zero, List.set_cons_succ]); (refine wpAnyH_take (i := 7) (v := undef) rfl (by kernel_rfl) (by kernel_rfl) (by kernel_rfl) (fun _ _ _ h => h) (Or.inr ⟨by kernel_rfl, rfl⟩) (by assumption) ?trest7); (try simp only [Act.put, List.getElem_toArray, List.getElem_cons_zero, List.getElem_cons_succ, List.setIfInBounds_toArray, List.set_cons_zero, List.set_cons_succ]); (refine wpAnyH_take (i := 8) (v := undef) rfl (by kernel_rfl) (by kernel_rfl) (by kernel_rfl) (fun _ _ _ h => h) (Or.inr ⟨by kernel_rfl, rfl⟩) (by assumption) ?trest8); (try simp only [Act.put, List.getElem_toArray, List.getElem_cons_zero, List.getElem_cons_succ, List.setIfInBounds_toArray, List.set_cons_zero, List.set_cons_succ]); (refine wpAnyH_take (i := 9) (v := undef) rfl (by kernel_rfl) (by kernel_rfl) (by kernel_rfl) (fun _ _ _ h => h) (Or.inr ⟨by kernel_rfl, rfl⟩) (by assumption) ?trest9); (try simp only [Act.put, List.getElem_toArray, List.getElem_cons_zero, List.getElem_cons_succ, List.setIfInBounds_toArray, List.set_cons_zero, List.set_cons_succ]); (refine wpAnyH_take (i := 10) (v := undef) rfl (by kernel_rfl) (by kernel_rfl) (by kernel_rfl) (fun _ _ _ h => h) (Or.inr ⟨by kernel_rfl, rfl⟩) (by assumption) ?trest10); (try simp only [Act.put, List.getElem_toArray, List.getElem_cons_zero, List.getElem_cons_succ, List.setIfInBounds_toArray, List.set_cons_zero, List.set_cons_succ]); (refine wpAnyH_take (i := 11) (v := undef) rfl (by kernel_rfl) (by kernel_rfl) (by kernel_rfl) (fun _ _ _ h => h) (Or.inr ⟨by kernel_rfl, rfl⟩) (by assumption) ?trest11); (try simp only [Act.put, List.getElem_toArray, List.getElem_cons_zero, List.getElem_cons_succ, List.setIfInBounds_toArray, List.set_cons_zero, List.set_cons_succ]); (refine wpAnyH_take (i := 12) (v := undef) rfl (by kernel_rfl) (by kernel_rfl) (by kernel_rfl) (fun _ _ _ h => h) (Or.inr ⟨by kernel_rfl, rfl⟩) (by assumption) ?trest12); (try simp only [Act.put, List.getElem_toArray, List.getElem_cons_zero, List.getElem_cons_succ, List.setIfInBounds_toArray, List.set_cons_zero, List.set_cons_succ]); (refine wpAnyH_take (i := 13) (v := undef) rfl (by kernel_rfl) (by kernel_rfl) (by kernel_rfl) (fun _ _ _ h => h) (Or.inr ⟨by kernel_rfl, rfl⟩) (by assumption) ?trest13); (try simp only [Act.put, List.getElem_toArray, List.getElem_cons_zero, List.getElem_cons_succ, List.setIfInBounds_toArray, List.set_cons_zero, List.set_cons_succ])
          (refine wpAnyH_take (i := 14) (v := ?tv14) rfl (by kernel_rfl) (by kernel_rfl) (by kernel_rfl) (fun _ _ _ h => h) (Or.inl ⟨by rfl, ?thy14⟩) (by assumption) ?trest14; case thy14 => (intro w hSw; (try dsimp only at hSw); go_simp; (try with_reducible rfl)); (try simp only [Act.put, List.getElem_toArray, List.getElem_cons_zero, List.getElem_cons_succ, List.setIfInBounds_toArray, List.set_cons_zero, List.set_cons_succ]))
          refine wpAnyH_done (by kernel_rfl) ?_ _
          refine NoPanic.normal ?_
          go_wp2
          go_ret
          exact ⟨by rw [HC.out]; rfl, ((B0.tr hb2).tr hb3).tr hb5'⟩
        · have hmx := mx_bd hbd (m := 0) (by omega)
          have hm := bt_bd (b := mxF 0 p) (M := 15) (by omega) hB
          have HC6 := Lib.hid (fun hh => fc6 hv ht hx (Or.inr hh))
          have HC0 := Lib.hid (fun hh => fc0 hv ht hx hf hh)
          obtain ⟨H, HH⟩ : ∃ H, Hid (mxF 0 p = H) := ⟨_, Lib.hid rfl⟩
          rw [HH.out] at hm hmx HC6 HC0
          obtain ⟨M, HM⟩ : ∃ M, Hid (H * B = M) := ⟨_, Lib.hid rfl⟩
          rw [HM.out] at hm HC6 HC0
          have hw1 : IntKind.i64.wrap (H * B) = M := by rw [HM.out]; exact IntWalk.i64_in _ (by omega)
          have hw2 : IntKind.i64.wrap (M - D) = M - D := IntWalk.i64_in _ (by omega)
          go_enter Tryd.func41, Tryd.ntmps41
          go_wp2_with fail
          rw [← hW0]
          clear hW0
          refine (c_impl_ValidPattern p _ _ HR.out).mono ?_; rintro e w2 ⟨rfl, hb2⟩; rw [hv]
          have k0 := keepc hb2 k0
          have k1 := keepc hb2 k1
          go_wp2_with fail
          refine (c_impl_ValidTiming B D _).mono ?_; rintro e w3 ⟨rfl, hb3⟩; rw [ht]
          have k0 := keepc hb3 k0
          have k1 := keepc hb3 k1
          go_wp2_with fail
          refine (c_impl_between x 0 16 _).mono ?_; rintro e w4 ⟨rfl, rfl⟩; rw [hx]
          go_wp2_with fail
          refine (c_impl_between 0 0 200 _).mono ?_; rintro e w4 ⟨rfl, rfl⟩; rw [hz]
          go_wp2_with fail
          have hR3 : RdI w3 v p := (HR.out.below hb2).below hb3
          refine wp_region_noPanic ?_
          refine wp_region_held_drew (S := fun w' => w'.cell? ⟨w.heap.size, 0, none⟩ = some (.int .i64 B) ∧ w'.cell? ⟨w.heap.size, 1, none⟩ = some (.int .i64 D)) (by kernel_rfl) ?_ (fun hHeld => ?_)
          · exact ⟨k0, k1⟩
          (refine wpAnyH_take (i := 0) (v := ?tv15) rfl (by kernel_rfl) (by kernel_rfl) (by kernel_rfl) (fun _ _ _ h => h) (Or.inl ⟨by rfl, ?thy15⟩) (by assumption) ?trest15; case thy15 => (intro w hSw; (try dsimp only at hSw); go_simp; (try with_reducible rfl)); (try simp only [Act.put, List.getElem_toArray, List.getElem_cons_zero, List.getElem_cons_succ, List.setIfInBounds_toArray, List.set_cons_zero, List.set_cons_succ])); (refine wpAnyH_take (i := 1) (v := ?tv16) rfl (by kernel_rfl) (by kernel_rfl) (by kernel_rfl) (fun _ _ _ h => h) (Or.inl ⟨by rfl, ?thy16⟩) (by assumption) ?trest16; case thy16 => (intro w hSw; (try dsimp only at hSw); go_simp; (try with_reducible rfl)); (try simp only [Act.put, List.getElem_toArray, List.getElem_cons_zero, List.getElem_cons_succ, List.setIfInBounds_toArray, List.set_cons_zero, List.set_cons_succ]))
          refine wpAnyH_ready (rs := [2]) (by kernel_rfl) (by simp) ?_; refine AllReadyH.cons (i := 2) rfl (fun K hK => ?_) AllReadyH.nil
          go_simp
          refine (c_impl_fits p B D _ _ (hR3.below ((Below.refl _ _).dr)) hbd hB hDb).mono ?_; rintro e w5 ⟨rfl, hb5⟩; rw [hf]
          have hb5' := below_drew hb5
          have p0 := keepc hb5' k0
          have p1 := keepc hb5' k1
          refine hK.out _ _ ⟨p0, p1⟩ (fun hHeld => ?_)
          clear hK K
          (try simp only [Act.put, List.getElem_toArray, List.getElem_cons_zero, List.getElem_cons_succ, List.setIfInBounds_toArray, List.set_cons_zero, List.set_cons_succ])
          (refine wpAnyH_take (i := 3) (v := ?tv17) rfl (by kernel_rfl) (by kernel_rfl) (by kernel_rfl) (fun _ _ _ h => h) (Or.inl ⟨by rfl, ?thy17⟩) (by assumption) ?trest17; case thy17 => (intro w hSw; (try dsimp only at hSw); go_simp; (try with_reducible rfl)); (try simp only [Act.put, List.getElem_toArray, List.getElem_cons_zero, List.getElem_cons_succ, List.setIfInBounds_toArray, List.set_cons_zero, List.set_cons_succ])); (refine wpAnyH_take (i := 4) (v := ?tv18) rfl (by kernel_rfl) (by kernel_rfl) (by kernel_rfl) (fun _ _ _ h => h) (Or.inl ⟨by rfl, ?thy18⟩) (by assumption) ?trest18; case thy18 => (intro w hSw; (try dsimp only at hSw); go_simp; (try with_reducible rfl)); (try simp only [Act.put, List.getElem_toArray, List.getElem_cons_zero, List.getElem_cons_succ, List.setIfInBounds_toArray, List.set_cons_zero, List.set_cons_succ]))
          (refine wpAnyH_take (i := 5) (v := ?tv19) rfl (by kernel_rfl) (by kernel_rfl) (by kernel_rfl) (fun _ _ _ h => h) (Or.inl ⟨by kernel_rfl, ?thy19⟩) (by assumption) ?trest19; case thy19 => (intro w hSw; (try dsimp only at hSw); go_simp; (try with_reducible rfl)); (try simp only [Act.put, List.getElem_toArray, List.getElem_cons_zero, List.getElem_cons_succ, List.setIfInBounds_toArray, List.set_cons_zero, List.set_cons_succ])); (refine wpAnyH_take (i := 7) (v := ?tv20) rfl (by kernel_rfl) (by kernel_rfl) (by kernel_rfl) (fun _ _ _ h => h) (Or.inl ⟨by kernel_rfl, ?thy20⟩) (by assumption) ?trest20; case thy20 => (intro w hSw; (try dsimp only at hSw); go_simp; (try with_reducible rfl)); (try simp only [Act.put, List.getElem_toArray, List.getElem_cons_zero, List.getElem_cons_succ, List.setIfInBounds_toArray, List.set_cons_zero, List.set_cons_succ])); (refine wpAnyH_take (i := 8) (v := ?tv21) rfl (by kernel_rfl) (by kernel_rfl) (by kernel_rfl) (fun _ _ _ h => h) (Or.inl ⟨by kernel_rfl, ?thy21⟩) (by assumption) ?trest21; case thy21 => (intro w hSw; (try dsimp only at hSw); go_simp; (try with_reducible rfl)); (try simp only [Act.put, List.getElem_toArray, List.getElem_cons_zero, List.getElem_cons_succ, List.setIfInBounds_toArray, List.set_cons_zero, List.set_cons_succ])); (refine wpAnyH_take (i := 10) (v := ?tv22) rfl (by kernel_rfl) (by kernel_rfl) (by kernel_rfl) (fun _ _ _ h => h) (Or.inl ⟨by kernel_rfl, ?thy22⟩) (by assumption) ?trest22; case thy22 => (intro w hSw; (try dsimp only at hSw); go_simp; (try with_reducible rfl)); (try simp only [Act.put, List.getElem_toArray, List.getElem_cons_zero, List.getElem_cons_succ, List.setIfInBounds_toArray, List.set_cons_zero, List.set_cons_succ])); (refine wpAnyH_take (i := 11) (v := ?tv23) rfl (by kernel_rfl) (by kernel_rfl) (by kernel_rfl) (fun _ _ _ h => h) (Or.inl ⟨by kernel_rfl, ?thy23⟩) (by assumption) ?trest23; case thy23 => (intro w hSw; (try dsimp only at hSw); go_simp; (try with_reducible rfl)); (try simp only [Act.put, List.getElem_toArray, List.getElem_cons_zero, List.getElem_cons_succ, List.setIfInBounds_toArray, List.set_cons_zero, List.set_cons_succ]))
          refine wpAnyH_ready (rs := [6]) (by kernel_rfl) (by simp) ?_; refine AllReadyH.cons (i := 6) rfl (fun K hK => ?_) AllReadyH.nil
          go_simp
          refine (c_impl_highest p _ _ (hR3.below hb5')).mono ?_; rintro e w6 ⟨rfl, rfl⟩; rw [HH.out]
          refine hK.out _ _ ⟨p0, p1⟩ (fun hHeld => ?_)
          clear hK K
          (try simp only [Act.put, List.getElem_toArray, List.getElem_cons_zero, List.getElem_cons_succ, List.setIfInBounds_toArray, List.set_cons_zero, List.set_cons_succ])
          by_cases hh : 40 < M - D
          · have HC := Lib.hid (HC6.out hh)
            (refine wpAnyH_take (i := 9) (v := ?tv24) rfl (by kernel_rfl) (by kernel_rfl) (by kernel_rfl) (fun _ _ _ h => h) (Or.inl ⟨by kernel_rfl, ?thy24⟩) (by assumption) ?trest24; case thy24 => (intro w hSw; (try dsimp only at hSw); go_simp; (try with_reducible rfl)); (try simp only [Act.put, List.getElem_toArray, List.getElem_cons_zero, List.getElem_cons_succ, List.setIfInBounds_toArray, List.set_cons_zero, List.set_cons_succ])); (refine wpAnyH_take (i := 12) (v := ?tv25) rfl (by kernel_rfl) (by kernel_rfl) (by kernel_rfl) (fun _ _ _ h => h) (Or.inl ⟨by kernel_rfl, ?thy25⟩) (by assumption) ?trest25; case thy25 => (intro w hSw; (try dsimp only at hSw); go_simp; (try with_reducible rfl)); (try simp only [Act.put, List.getElem_toArray, List.getElem_cons_zero, List.getElem_cons_succ, List.setIfInBounds_toArray, List.set_cons_zero, List.set_cons_succ])); (refine wpAnyH_take (i := 13) (v := ?tv26) rfl (by kernel_rfl) (by kernel_rfl) (by kernel_rfl) (fun _ _ _ h => h) (Or.inl ⟨by kernel_rfl, ?thy26⟩) (by assumption) ?trest26; case thy26 => (intro w hSw; (try dsimp only at hSw); go_simp; (try with_reducible rfl)); (try simp only [Act.put, List.getElem_toArray, List.getElem_cons_zero, List.getElem_cons_succ, List.setIfInBounds_toArray, List.set_cons_zero, List.set_cons_succ]))
            (refine wpAnyH_take (i := 14) (v := ?tv27) rfl (by kernel_rfl) (by kernel_rfl) (by kernel_rfl) (fun _ _ _ h => h) (Or.inl ⟨by rfl, ?thy27⟩) (by assumption) ?trest27; case thy27 => (intro w hSw; (try dsimp only at hSw); go_simp; (try with_reducible rfl)); (try simp only [Act.put, List.getElem_toArray, List.getElem_cons_zero, List.getElem_cons_succ, List.setIfInBounds_toArray, List.set_cons_zero, List.set_cons_succ]))
            refine wpAnyH_done (by kernel_rfl) ?_ _
            refine NoPanic.normal ?_
            go_wp2
            go_ret
            exact ⟨by rw [HC.out.out]; rfl, ((B0.tr hb2).tr hb3).tr hb5'⟩
          · have HC := Lib.hid (HC0.out (by omega))
            (refine wpAnyH_take (i := 9) (v := ?tv28) rfl (by kernel_rfl) (by kernel_rfl) (by kernel_rfl) (fun _ _ _ h => h) (Or.inl ⟨by kernel_rfl, ?thy28⟩) (by assumption) ?trest28; case thy28 => (intro w hSw; (try dsimp only at hSw); go_simp; (try with_reducible rfl)); (try simp only [Act.put, List.getElem_toArray, List.getElem_cons_zero, List.getElem_cons_succ, List.setIfInBounds_toArray, List.set_cons_zero, List.set_cons_succ])); (refine wpAnyH_take (i := 12) (v := ?tv29) rfl (by kernel_rfl) (by kernel_rfl) (by kernel_rfl) (fun _ _ _ h => h) (Or.inl ⟨by kernel_rfl, ?thy29⟩) (by assumption) ?trest29; case thy29 => (intro w hSw; (try dsimp only at hSw); go_simp; (try with_reducible rfl)); (try simp only [Act.put, List.getElem_toArray, List.getElem_cons_zero, List.getElem_cons_succ, List.setIfInBounds_toArray, List.set_cons_zero, List.set_cons_succ])); (refine wpAnyH_take (i := 13) (v := ?tv30) rfl (by kernel_rfl) (by kernel_rfl) (by kernel_rfl) (fun _ _ _ h => h) (Or.inl ⟨by kernel_rfl, ?thy30⟩) (by assumption) ?trest30; case thy30 => (intro w hSw; (try dsimp only at hSw); go_simp; (try with_reducible rfl)); (try simp only [Act.put, List.getElem_toArray, List.getElem_cons_zero, List.getElem_cons_succ, List.setIfInBounds_toArray, List.set_cons_zero, List.set_cons_succ]))
            (refine wpAnyH_take (i := 14) (v := ?tv31) rfl (by kernel_rfl) (by kernel_rfl) (by kernel_rfl) (fun _ _ _ h => h) (Or.inl ⟨by rfl, ?thy31⟩) (by assumption) ?trest31; case thy31 => (intro w hSw; (try dsimp only at hSw); go_simp; (try with_reducible rfl)); (try simp only [Act.put, List.getElem_toArray, List.getElem_cons_zero, List.getElem_cons_succ, List.setIfInBounds_toArray, List.set_cons_zero, List.set_cons_succ]))
            refine wpAnyH_done (by kernel_rfl) ?_ _
            refine NoPanic.normal ?_
            go_wp2
            go_ret
            exact ⟨by rw [HC.out.out]; rfl, ((B0.tr hb2).tr hb3).tr hb5'⟩
set_option maxHeartbeats 2000000 in
theorem c_impl_frameCode (p : List Int) (B D x t : Int) (v : Value) (w : World) (hr : RdI w v p) :
    Calls Tryd.prog 16 #[v, .agg #[.int .i64 B, .int .i64 D], .int .i64 x, .int .i64 t] w fun e w' => e = .returned (.int .i64 (frCode p B D x t)) ∧ Below w.heap.size w w' := by
  obtain ⟨W0, hW0, k0, k1, B0⟩ := oneState w 26 B D
  have HR : Hid (RdI W0 v p) := Lib.hid (hr.below B0)
  clear hr
  by_cases hL : fCode p B D x = 0
  · cases hi : inB t 0 3000
    · have HC := frC_no hL hi
      have HL := Lib.hid hL
      clear hL
      go_enter Tryd.func16, Tryd.ntmps16
      go_wp2_with fail
      rw [← hW0]
      clear hW0
      refine (c_impl_flightsCode p B D x _ _ HR.out).mono ?_; rintro e w2 ⟨rfl, hb2⟩; rw [HL.out]
      go_wp2_with fail
      refine (c_impl_between t 0 3000 _).mono ?_; rintro e w3 ⟨rfl, rfl⟩; rw [hi]
      go_wp2
      go_ret
      exact ⟨by rw [HC.out]; rfl, B0.tr hb2⟩
    · have HC := frC_ok hL hi
      have HL := Lib.hid hL
      clear hL
      go_enter Tryd.func16, Tryd.ntmps16
      go_wp2_with fail
      rw [← hW0]
      clear hW0
      refine (c_impl_flightsCode p B D x _ _ HR.out).mono ?_; rintro e w2 ⟨rfl, hb2⟩; rw [HL.out]
      go_wp2_with fail
      refine (c_impl_between t 0 3000 _).mono ?_; rintro e w3 ⟨rfl, rfl⟩; rw [hi]
      go_wp2
      go_ret
      exact ⟨by rw [HC.out]; rfl, B0.tr hb2⟩
  · have HC := frC_ne t hL
    have t0 : (fCode p B D x == 0) = false := by simpa using hL
    obtain ⟨L, HL⟩ : ∃ L, Hid (fCode p B D x = L) := ⟨_, Lib.hid rfl⟩
    rw [HL.out] at t0 HC
    clear hL
    go_enter Tryd.func16, Tryd.ntmps16
    go_wp2_with fail
    rw [← hW0]
    clear hW0
    refine (c_impl_flightsCode p B D x _ _ HR.out).mono ?_; rintro e w2 ⟨rfl, hb2⟩; rw [HL.out]
    go_wp2
    go_ret
    exact ⟨by rw [HC.out]; rfl, B0.tr hb2⟩
end Go.Proofs.YtgcmnpimkfmccaaDoor
end
