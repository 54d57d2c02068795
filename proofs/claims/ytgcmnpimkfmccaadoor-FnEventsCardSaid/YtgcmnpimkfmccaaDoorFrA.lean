/- FrA, FrB: laid one behind the other. -/
import Derived.Test.YtgcmnpimkfmccaaDoorPatW
import Derived.Test.YtgcmnpimkfmccaaDoorPlainK
section
set_option linter.unusedVariables false
namespace Go.Proofs.YtgcmnpimkfmccaaDoor
open Go.ChangeShapes Go.WideShapes Go.ChangeAt Go.RowKit
set_option linter.unusedSimpArgs false
def gcP (n d : Int) : Int := ((Nat.gcd n.natAbs d.toNat : Nat) : Int)
def fraN (n d : Int) : Int := n.tdiv (gcP n d)
def fraD (n d : Int) : Int := d.tdiv (gcP n d)
theorem gcP_pos (n : Int) {d : Int} (hd : 0 < d) : 0 < gcP n d ∧ gcP n d ≤ d := by
  unfold gcP
  have h1 : 0 < Nat.gcd n.natAbs d.toNat := Nat.gcd_pos_of_pos_right _ (by omega)
  have h2 : Nat.gcd n.natAbs d.toNat ≤ d.toNat := Nat.gcd_le_right _ (by omega)
  omega
theorem tdiv_bd (n : Int) {g : Int} (hg : 0 < g) {M : Int} (h : -M ≤ n ∧ n ≤ M) : -M ≤ n.tdiv g ∧ n.tdiv g ≤ M := by
  have h1 : (n.tdiv g).natAbs = n.natAbs / g.natAbs := Int.natAbs_tdiv ..
  have h2 : n.natAbs / g.natAbs ≤ n.natAbs := Nat.div_le_self ..
  omega
theorem set4 (W : World) (g : Nat) (a b c d u0 u1 u2 u3 : Value) (k0 : W.cell? ⟨g, 0, none⟩ = some u0) (k1 : W.cell? ⟨g, 1, none⟩ = some u1) (k2 : W.cell? ⟨g, 2, none⟩ = some u2) (k3 : W.cell? ⟨g, 3, none⟩ = some u3) :
    ∃ W', W' = (((W.setCell ⟨g, 0, none⟩ a).setCell ⟨g, 1, none⟩ b).setCell ⟨g, 2, none⟩ c).setCell ⟨g, 3, none⟩ d ∧
    W'.cell? ⟨g, 0, none⟩ = some a ∧ W'.cell? ⟨g, 1, none⟩ = some b ∧ W'.cell? ⟨g, 2, none⟩ = some c ∧ W'.cell? ⟨g, 3, none⟩ = some d ∧
    (∀ p, W'.frozen? p = W.frozen? p) ∧ W.grownBy W' (some g) := by
  have hin : ∀ i, i < [a, b, c, d].length → (W.cell? ⟨g, 0 + i, none⟩).isSome = true := fun i hi => by
    simp only [List.length_cons, List.length_nil] at hi
    rw [Nat.zero_add]
    have : i = 0 ∨ i = 1 ∨ i = 2 ∨ i = 3 := by omega
    rcases this with rfl | rfl | rfl | rfl
    · rw [k0]; rfl
    · rw [k1]; rfl
    · rw [k2]; rfl
    · rw [k3]; rfl
  exact ⟨_, rfl, World.cell?_setCells_in g [a, b, c, d] 0 W hin 0 (by simp), World.cell?_setCells_in g [a, b, c, d] 0 W hin 1 (by simp), World.cell?_setCells_in g [a, b, c, d] 0 W hin 2 (by simp), World.cell?_setCells_in g [a, b, c, d] 0 W hin 3 (by simp), fun p => frozen_setCells g p [a, b, c, d] 0 W, grownBy_setCells W g [a, b, c, d] 0⟩
theorem set5 (W : World) (g : Nat) (a b c d e u0 u1 u2 u3 u4 : Value) (k0 : W.cell? ⟨g, 0, none⟩ = some u0) (k1 : W.cell? ⟨g, 1, none⟩ = some u1) (k2 : W.cell? ⟨g, 2, none⟩ = some u2) (k3 : W.cell? ⟨g, 3, none⟩ = some u3) (k4 : W.cell? ⟨g, 4, none⟩ = some u4) :
    ∃ W', W' = ((((W.setCell ⟨g, 0, none⟩ a).setCell ⟨g, 1, none⟩ b).setCell ⟨g, 2, none⟩ c).setCell ⟨g, 3, none⟩ d).setCell ⟨g, 4, none⟩ e ∧
    W'.cell? ⟨g, 0, none⟩ = some a ∧ W'.cell? ⟨g, 1, none⟩ = some b ∧ W'.cell? ⟨g, 2, none⟩ = some c ∧ W'.cell? ⟨g, 3, none⟩ = some d ∧ W'.cell? ⟨g, 4, none⟩ = some e ∧
    (∀ p, W'.frozen? p = W.frozen? p) ∧ W.grownBy W' (some g) := by
  have hin : ∀ i, i < [a, b, c, d, e].length → (W.cell? ⟨g, 0 + i, none⟩).isSome = true := fun i hi => by
    simp only [List.length_cons, List.length_nil] at hi
    rw [Nat.zero_add]
    have : i = 0 ∨ i = 1 ∨ i = 2 ∨ i = 3 ∨ i = 4 := by omega
    rcases this with rfl | rfl | rfl | rfl | rfl
    · rw [k0]; rfl
    · rw [k1]; rfl
    · rw [k2]; rfl
    · rw [k3]; rfl
    · rw [k4]; rfl
  exact ⟨_, rfl, World.cell?_setCells_in g [a, b, c, d, e] 0 W hin 0 (by simp), World.cell?_setCells_in g [a, b, c, d, e] 0 W hin 1 (by simp), World.cell?_setCells_in g [a, b, c, d, e] 0 W hin 2 (by simp), World.cell?_setCells_in g [a, b, c, d, e] 0 W hin 3 (by simp), World.cell?_setCells_in g [a, b, c, d, e] 0 W hin 4 (by simp), fun p => frozen_setCells g p [a, b, c, d, e] 0 W, grownBy_setCells W g [a, b, c, d, e] 0⟩
end Go.Proofs.YtgcmnpimkfmccaaDoor
end
section
set_option linter.unusedVariables false
namespace Go.Proofs.YtgcmnpimkfmccaaDoor
open Go.ChangeShapes Go.WideShapes Go.ChangeAt Go.RowKit
set_option linter.unusedSimpArgs false
theorem mulb {a b : Int} {A C : Nat} (ha : a.natAbs ≤ A) (hb : b.natAbs ≤ C) : (a * b).natAbs ≤ A * C := by
  rw [Int.natAbs_mul]; exact Nat.mul_le_mul ha hb
theorem bt_bd {b B : Int} {M : Nat} (hb : b.natAbs ≤ M) (hB : 2 ≤ B ∧ B ≤ 30) : (b * B).natAbs ≤ M * 30 := mulb hb (by omega)
def sideP (h x : Int) : Int := if h = 0 then -x else x
theorem sideP_bd (h : Int) {x : Int} {M : Nat} (hx : x.natAbs ≤ M) : (sideP h x).natAbs ≤ M := by
  unfold sideP; split <;> omega
theorem side0 {h : Int} (e : h = 0) (x : Int) : Hid (sideP h x = -x) := by unfold Hid sideP; rw [if_pos e]
theorem side1 {h : Int} (e : ¬ h = 0) (x : Int) : Hid (sideP h x = x) := by unfold Hid sideP; rw [if_neg e]
theorem c_impl_HandOf (b : Int) (w : World) (hb : -100000 ≤ b ∧ b ≤ 100000) :
    Calls Tryd.prog 19 #[.int .i64 b] w fun e w' => e = .returned (.int .i64 (b % 2)) ∧ w = w' := by
  have h1 := tmod_bd b 2 (by omega)
  have HM : Hid ((b.tmod 2) % 2 = b % 2) := by
    unfold Hid
    have := modI b 2
    rw [Int.add_emod_right] at this
    exact this
  go_enter Tryd.func19, Tryd.ntmps19
  go_wp2_with fail
  refine (c_impl_modulo _ 2 _ (by omega) (by omega)).mono ?_; rintro e w2 ⟨rfl, rfl⟩
  rw [HM.out]
  go_wp2
  go_ret
  exact ⟨rfl, rfl⟩
theorem c_impl_throwAt (p : List Int) (b : Int) (v : Value) (w : World) (hr : RdI w v p) (hn : 1 ≤ p.length ∧ p.length ≤ 12) (hb : -100000 ≤ b ∧ b ≤ 100000) :
    Calls Tryd.prog 43 #[v, .int .i64 b] w fun e w' => e = .returned (.int .i64 (atP p b)) ∧ w = w' := by
  obtain ⟨a1, cap1, rfl, hl1, hc1⟩ := hr
  have h1 : 0 ≤ b % (p.length : Int) := Int.emod_nonneg _ (by omega)
  have h2 : b % (p.length : Int) < p.length := Int.emod_lt_of_pos _ (by omega)
  obtain ⟨b1, o1, rfl, hx⟩ := hc1 (b % (p.length : Int)).toNat (by omega)
  have HA : Hid (p.getD (b % (p.length : Int)).toNat 0 = atP p b) := rfl
  rw [HA.out] at hx
  have e1 : (((b % (p.length : Int)).toNat : Nat) : Int) = b % (p.length : Int) := by omega
  generalize hM : (b % (p.length : Int)).toNat = M at *
  have HE1 := Lib.hid e1
  go_enter Tryd.func43, Tryd.ntmps43
  go_wp2_with fail
  refine (c_impl_period p.length _ _ _ (by omega)).mono ?_; rintro e w2 ⟨rfl, rfl⟩
  go_wp2_with fail
  refine (c_impl_modulo b (p.length : Int) _ (by omega) (by omega)).mono ?_; rintro e w2 ⟨rfl, rfl⟩
  rw [← HE1.out]
  go_wp2
  go_ret
  exact ⟨rfl, rfl⟩
/-- the side of a flight at a tick, times its duration, and its height -/
def alongP (x1 x2 t1 t2 t : Int) : Int := x1 * (t2 - t) + x2 * (t - t1)
def highP (t1 t2 t : Int) : Int := (t - t1) * (t2 - t)
def flB (x1 x2 t1 t2 t : Int) : Prop := x1.natAbs ≤ 100 ∧ x2.natAbs ≤ 100 ∧ t1.natAbs ≤ 100000 ∧ t2.natAbs ≤ 100000 ∧ t.natAbs ≤ 100000
theorem alongP_bd {x1 x2 t1 t2 t : Int} (h : flB x1 x2 t1 t2 t) : (x1 * (t2 - t)).natAbs ≤ 20000000 ∧ (x2 * (t - t1)).natAbs ≤ 20000000 ∧ (alongP x1 x2 t1 t2 t).natAbs ≤ 40000000 ∧ (highP t1 t2 t).natAbs ≤ 40000000000 := by
  obtain ⟨h1, h2, h3, h4, h5⟩ := h
  have a1 := mulb (a := x1) (b := t2 - t) (A := 100) (C := 200000) h1 (by omega)
  have a2 := mulb (a := x2) (b := t - t1) (A := 100) (C := 200000) h2 (by omega)
  have a3 := mulb (a := t - t1) (b := t2 - t) (A := 200000) (C := 200000) (by omega) (by omega)
  unfold alongP highP
  omega
end Go.Proofs.YtgcmnpimkfmccaaDoor
end
