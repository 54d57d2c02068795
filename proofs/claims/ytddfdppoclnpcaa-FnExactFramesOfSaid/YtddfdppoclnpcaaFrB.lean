/- Contracts: hands, sides, flights. -/
import Derived.Test.YtddfdppoclnpcaaFrA
import Derived.Test.YtddfdppoclnpcaaPlainK
namespace Go.Proofs.Ytddfdppoclnpcaa
open Go.ChangeShapes Go.WideShapes Go.ChangeAt Go.RowKit
set_option linter.unusedVariables false
set_option linter.unusedSimpArgs false
theorem mulb {a b : Int} {A C : Nat} (ha : a.natAbs ≤ A) (hb : b.natAbs ≤ C) : (a * b).natAbs ≤ A * C := by
  rw [Int.natAbs_mul]; exact Nat.mul_le_mul ha hb
theorem bt_bd {b B : Int} {M : Nat} (hb : b.natAbs ≤ M) (hB : 2 ≤ B ∧ B ≤ 30) : (b * B).natAbs ≤ M * 30 := mulb hb (by omega)
def sideP (h x : Int) : Int := if h = 0 then -x else x
theorem sideP_bd (h : Int) {x : Int} {M : Nat} (hx : x.natAbs ≤ M) : (sideP h x).natAbs ≤ M := by
  unfold sideP; split <;> omega
theorem side0 {h : Int} (e : h = 0) (x : Int) : Hid (sideP h x = -x) := by unfold Hid sideP; rw [if_pos e]
theorem side1 {h : Int} (e : ¬ h = 0) (x : Int) : Hid (sideP h x = x) := by unfold Hid sideP; rw [if_neg e]
theorem c_impl_side (h x : Int) (w : World) (hx : -10000 ≤ x ∧ x ≤ 10000) :
    Calls Try.prog 145 #[.int .i64 h, .int .i64 x] w fun e w' => e = .returned (.int .i64 (sideP h x)) ∧ w = w' := by
  by_cases h0 : h = 0
  · have HS := side0 h0 x
    have t0 : (h == 0) = true := by simpa using h0
    clear h0
    go_enter Try.func145, Try.ntmps145
    go_wp2
    go_ret
    exact ⟨by rw [HS.out]; rfl, rfl⟩
  · have HS := side1 h0 x
    have t0 : (h == 0) = false := by simpa using h0
    clear h0
    go_enter Try.func145, Try.ntmps145
    go_wp2
    go_ret
    exact ⟨by rw [HS.out]; rfl, rfl⟩
theorem c_impl_HandOf (b : Int) (w : World) (hb : -100000 ≤ b ∧ b ≤ 100000) :
    Calls Try.prog 81 #[.int .i64 b] w fun e w' => e = .returned (.int .i64 (b % 2)) ∧ w = w' := by
  have h1 := tmod_bd b 2 (by omega)
  have HM : Hid ((b.tmod 2) % 2 = b % 2) := by
    unfold Hid
    have := modI b 2
    rw [Int.add_emod_right] at this
    exact this
  go_enter Try.func81, Try.ntmps81
  go_wp2_with fail
  refine (c_impl_modulo _ 2 _ (by omega) (by omega)).mono ?_; rintro e w2 ⟨rfl, rfl⟩
  rw [HM.out]
  go_wp2
  go_ret
  exact ⟨rfl, rfl⟩
theorem c_impl_throwAt (p : List Int) (b : Int) (v : Value) (w : World) (hr : RdI w v p) (hn : 1 ≤ p.length ∧ p.length ≤ 12) (hb : -100000 ≤ b ∧ b ≤ 100000) :
    Calls Try.prog 114 #[v, .int .i64 b] w fun e w' => e = .returned (.int .i64 (atP p b)) ∧ w = w' := by
  obtain ⟨a1, cap1, rfl, hl1, hc1⟩ := hr
  have h1 : 0 ≤ b % (p.length : Int) := Int.emod_nonneg _ (by omega)
  have h2 : b % (p.length : Int) < p.length := Int.emod_lt_of_pos _ (by omega)
  obtain ⟨b1, o1, rfl, hx⟩ := hc1 (b % (p.length : Int)).toNat (by omega)
  have HA : Hid (p.getD (b % (p.length : Int)).toNat 0 = atP p b) := rfl
  rw [HA.out] at hx
  have e1 : (((b % (p.length : Int)).toNat : Nat) : Int) = b % (p.length : Int) := by omega
  generalize hM : (b % (p.length : Int)).toNat = M at *
  have HE1 := Lib.hid e1
  go_enter Try.func114, Try.ntmps114
  go_wp2_with fail
  refine (c_impl_period p.length _ _ _ (by omega)).mono ?_; rintro e w2 ⟨rfl, rfl⟩
  go_wp2_with fail
  refine (c_impl_modulo b (p.length : Int) _ (by omega) (by omega)).mono ?_; rintro e w2 ⟨rfl, rfl⟩
  rw [← HE1.out]
  go_wp2
  go_ret
  exact ⟨rfl, rfl⟩
theorem c_spec_l16Hand (b x t : Int) (w : World) (hb : -100000 ≤ b ∧ b ≤ 100000) (hx : 0 ≤ x ∧ x ≤ 16) (ht : t = 1 ∨ t = 3) :
    Calls Try.prog 135 #[.int .i64 b, .int .i64 x, .int .i64 t] w fun e w' => e = .returned (.int .i64 (sideP (b % 2) (t * x))) ∧ w = w' := by
  have HT : Hid (-(t * x) = -t * x) := by unfold Hid; rw [Int.neg_mul]
  have HT2 : Hid (-100 ≤ t * x ∧ t * x ≤ 100 ∧ -100 ≤ -t * x ∧ -t * x ≤ 100) := by rcases ht with rfl | rfl <;> (unfold Hid; omega)
  have ht2 : 1 ≤ t ∧ t ≤ 3 := by omega
  obtain ⟨M1, HM1⟩ : ∃ M, Hid (t * x = M) := ⟨_, Lib.hid rfl⟩
  obtain ⟨M2, HM2⟩ : ∃ M, Hid (-t * x = M) := ⟨_, Lib.hid rfl⟩
  rw [HM1.out, HM2.out] at HT HT2
  have hbd := HT2.out
  have hw1 : IntKind.i64.wrap (t * x) = M1 := by rw [HM1.out]; exact IntWalk.i64_in _ (by omega)
  have hw2 : IntKind.i64.wrap (-t * x) = M2 := by rw [HM2.out]; exact IntWalk.i64_in _ (by omega)
  have hw3 : IntKind.i64.wrap (-(t * x)) = M2 := by rw [HM1.out, HT.out]; exact IntWalk.i64_in _ (by omega)
  have HMM := Lib.hid HM1.out
  clear ht HT2
  by_cases h0 : b % 2 = 0
  · have HS := side0 h0 M1
    have t0 : (b % 2 == 0) = true := by simpa using h0
    have H0 := Lib.hid h0
    clear h0
    go_enter Try.func135, Try.ntmps135
    go_wp2_with fail
    refine (c_spec_l02Mod b 2 _ (by omega) (by omega)).mono ?_; rintro e w2 ⟨rfl, rfl⟩
    go_wp2
    go_ret
    exact ⟨by rw [HMM.out, HS.out, HT.out]; rfl, rfl⟩
  · have HS := side1 h0 M1
    have t0 : (b % 2 == 0) = false := by simpa using h0
    have H0 := Lib.hid h0
    clear h0
    go_enter Try.func135, Try.ntmps135
    go_wp2_with fail
    refine (c_spec_l02Mod b 2 _ (by omega) (by omega)).mono ?_; rintro e w2 ⟨rfl, rfl⟩
    go_wp2
    go_ret
    exact ⟨by rw [HMM.out, HS.out]; rfl, rfl⟩
theorem boxFl (w : World) (a b c d : Int) : ∃ W0, W0 = w.alloc (Obj.cells #[Value.int IntKind.i64 a, Value.int IntKind.i64 b, Value.int IntKind.i64 c, Value.int IntKind.i64 d] 117) ∧
    W0.cell? ⟨w.heap.size, 0, none⟩ = some (.int .i64 a) ∧ W0.cell? ⟨w.heap.size, 1, none⟩ = some (.int .i64 b) ∧ W0.cell? ⟨w.heap.size, 2, none⟩ = some (.int .i64 c) ∧ W0.cell? ⟨w.heap.size, 3, none⟩ = some (.int .i64 d) ∧ Below w.heap.size w W0 := by
  refine ⟨_, rfl, ?_, ?_, ?_, ?_, (Below.refl _ _).al _⟩ <;> go_simp
/-- the side of a flight at a tick, times its duration, and its height -/
def alongP (x1 x2 t1 t2 t : Int) : Int := x1 * (t2 - t) + x2 * (t - t1)
def highP (t1 t2 t : Int) : Int := (t - t1) * (t2 - t)
def flB (x1 x2 t1 t2 t : Int) : Prop := x1.natAbs ≤ 100 ∧ x2.natAbs ≤ 100 ∧ t1.natAbs ≤ 100000 ∧ t2.natAbs ≤ 100000 ∧ t.natAbs ≤ 100000
theorem alongP_bd {x1 x2 t1 t2 t : Int} (h : flB x1 x2 t1 t2 t) : (x1 * (t2 - t)).natAbs ≤ 20000000 ∧ (x2 * (t - t1)).natAbs ≤ 20000000 ∧ (alongP x1 x2 t1 t2 t).natAbs ≤ 40000000 ∧ (highP t1 t2 t).natAbs ≤ 40000000000 := by
  obtain ⟨h1, h2, h3, h4, h5⟩ := h
  have a1 := mulb (a := x1) (b := t2 - t) (A := 100) (C := 200000) h1 (by omega)
  have a2 := mulb (a := x2) (b := t - t1) (A := 100) (C := 200000) h2 (by omega)
  have a3 := mulb (a := t - t1) (b := t2 - t) (A := 200000) (C := 200000) (by omega) (by omega)
  unfold alongP highP
  omega
set_option maxHeartbeats 1000000 in
theorem c_impl_along (x1 x2 t1 t2 t : Int) (w : World) (h : flB x1 x2 t1 t2 t) :
    Calls Try.prog 142 #[.agg #[.int .i64 x1, .int .i64 x2, .int .i64 t1, .int .i64 t2], .int .i64 t] w fun e w' => e = .returned (.int .i64 (alongP x1 x2 t1 t2 t)) ∧ Below w.heap.size w w' := by
  obtain ⟨W0, hW0, k0, k1, k2, k3, B0⟩ := boxFl w x1 x2 t1 t2
  obtain ⟨a1, a2, a3, -⟩ := alongP_bd h
  have HA : Hid (x1 * (t2 - t) + x2 * (t - t1) = alongP x1 x2 t1 t2 t) := rfl
  obtain ⟨h1, h2, h3, h4, h5⟩ := h
  obtain ⟨M1, HM1⟩ : ∃ M, Hid (x1 * (t2 - t) = M) := ⟨_, Lib.hid rfl⟩
  obtain ⟨M2, HM2⟩ : ∃ M, Hid (x2 * (t - t1) = M) := ⟨_, Lib.hid rfl⟩
  rw [HM1.out, HM2.out] at HA
  rw [HM1.out] at a1
  rw [HM2.out] at a2
  have hw1 : IntKind.i64.wrap (x1 * (t2 - t)) = M1 := by rw [HM1.out]; exact IntWalk.i64_in _ (by omega)
  have hw2 : IntKind.i64.wrap (x2 * (t - t1)) = M2 := by rw [HM2.out]; exact IntWalk.i64_in _ (by omega)
  go_enter Try.func142, Try.ntmps142
  go_wp2_with fail
  rw [← hW0]
  clear hW0
  go_wp2
  go_ret
  exact ⟨by rw [← HA.out]; rfl, B0⟩
set_option maxHeartbeats 1000000 in
theorem c_spec_l16Side (x1 x2 t1 t2 t : Int) (g : Nat) (w : World) (h : flB x1 x2 t1 t2 t)
    (k0 : w.cell? ⟨g, 0, none⟩ = some (.int .i64 x1)) (k1 : w.cell? ⟨g, 1, none⟩ = some (.int .i64 x2)) (k2 : w.cell? ⟨g, 2, none⟩ = some (.int .i64 t1)) (k3 : w.cell? ⟨g, 3, none⟩ = some (.int .i64 t2)) :
    Calls Try.prog 106 #[.pointer (some ⟨g, 0, none⟩), .int .i64 t] w fun e w' => e = .returned (.int .i64 (alongP x1 x2 t1 t2 t)) ∧ Below w.heap.size w w' := by
  obtain ⟨a1, a2, a3, -⟩ := alongP_bd h
  have HA : Hid (x1 * (t2 - t) + x2 * (t - t1) = alongP x1 x2 t1 t2 t) := rfl
  obtain ⟨h1, h2, h3, h4, h5⟩ := h
  obtain ⟨M1, HM1⟩ : ∃ M, Hid (x1 * (t2 - t) = M) := ⟨_, Lib.hid rfl⟩
  obtain ⟨M2, HM2⟩ : ∃ M, Hid (x2 * (t - t1) = M) := ⟨_, Lib.hid rfl⟩
  rw [HM1.out, HM2.out] at HA
  rw [HM1.out] at a1
  rw [HM2.out] at a2
  have hw1 : IntKind.i64.wrap (x1 * (t2 - t)) = M1 := by rw [HM1.out]; exact IntWalk.i64_in _ (by omega)
  have hw2 : IntKind.i64.wrap (x2 * (t - t1)) = M2 := by rw [HM2.out]; exact IntWalk.i64_in _ (by omega)
  go_enter Try.func106, Try.ntmps106
  go_wp2
  go_quiet (fail)
  go_wp2
  go_ret
  exact ⟨by rw [← HA.out]; rfl, by (repeat (first | (with_reducible assumption) | (with_reducible exact Below.refl _ _) | (with_reducible refine Below.setCell ?_ (by first | (simp; done) | (simp; omega)) _) | (with_reducible refine Below.al ?_ _) | (with_reducible refine Below.dr ?_) | (with_reducible refine Below.drN ?_ _) | (with_reducible refine Below.tr ?_ (by with_reducible assumption))))⟩
set_option maxHeartbeats 1000000 in
theorem c_impl_height (x1 x2 t1 t2 t : Int) (w : World) (h : flB x1 x2 t1 t2 t) :
    Calls Try.prog 144 #[.agg #[.int .i64 x1, .int .i64 x2, .int .i64 t1, .int .i64 t2], .int .i64 t] w fun e w' => e = .returned (.int .i64 (highP t1 t2 t)) ∧ Below w.heap.size w w' := by
  obtain ⟨W0, hW0, k0, k1, k2, k3, B0⟩ := boxFl w x1 x2 t1 t2
  obtain ⟨-, -, -, a3⟩ := alongP_bd h
  have HA : Hid ((t - t1) * (t2 - t) = highP t1 t2 t) := rfl
  obtain ⟨h1, h2, h3, h4, h5⟩ := h
  have hw1 : IntKind.i64.wrap ((t - t1) * (t2 - t)) = highP t1 t2 t := by rw [HA.out]; exact IntWalk.i64_in _ (by omega)
  go_enter Try.func144, Try.ntmps144
  go_wp2_with fail
  rw [← hW0]
  clear hW0
  go_wp2
  go_ret
  exact ⟨rfl, B0⟩
set_option maxHeartbeats 1000000 in
theorem c_spec_l16Height (x1 x2 t1 t2 t : Int) (g : Nat) (w : World) (h : flB x1 x2 t1 t2 t)
    (k2 : w.cell? ⟨g, 2, none⟩ = some (.int .i64 t1)) (k3 : w.cell? ⟨g, 3, none⟩ = some (.int .i64 t2)) :
    Calls Try.prog 107 #[.pointer (some ⟨g, 0, none⟩), .int .i64 t] w fun e w' => e = .returned (.int .i64 (highP t1 t2 t)) ∧ Below w.heap.size w w' := by
  obtain ⟨-, -, -, a3⟩ := alongP_bd h
  have HA : Hid ((t - t1) * (t2 - t) = highP t1 t2 t) := rfl
  obtain ⟨h1, h2, h3, h4, h5⟩ := h
  have hw1 : IntKind.i64.wrap ((t - t1) * (t2 - t)) = highP t1 t2 t := by rw [HA.out]; exact IntWalk.i64_in _ (by omega)
  go_enter Try.func107, Try.ntmps107
  go_wp2
  go_quiet (fail)
  go_wp2
  go_ret
  exact ⟨rfl, by (repeat (first | (with_reducible assumption) | (with_reducible exact Below.refl _ _) | (with_reducible refine Below.setCell ?_ (by first | (simp; done) | (simp; omega)) _) | (with_reducible refine Below.al ?_ _) | (with_reducible refine Below.dr ?_) | (with_reducible refine Below.drN ?_ _) | (with_reducible refine Below.tr ?_ (by with_reducible assumption))))⟩
theorem c_impl_duration (x1 x2 t1 t2 : Int) (w : World) (h3 : t1.natAbs ≤ 100000) (h4 : t2.natAbs ≤ 100000) :
    Calls Try.prog 143 #[.agg #[.int .i64 x1, .int .i64 x2, .int .i64 t1, .int .i64 t2]] w fun e w' => e = .returned (.int .i64 (t2 - t1)) ∧ Below w.heap.size w w' := by
  obtain ⟨W0, hW0, k0, k1, k2, k3, B0⟩ := boxFl w x1 x2 t1 t2
  go_enter Try.func143, Try.ntmps143
  go_wp2_with fail
  rw [← hW0]
  clear hW0
  go_wp2
  go_ret
  exact ⟨rfl, B0⟩
end Go.Proofs.Ytddfdppoclnpcaa
