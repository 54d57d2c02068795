/- FrA, FrB: laid one behind the other. -/
import Derived.Test.YtpcaaohdlcoplaaPatW
import Derived.Test.YtpcaaohdlcoplaaPlainK
section
set_option linter.unusedVariables false
namespace Go.Proofs.Ytpcaaohdlcoplaa
open Go.ChangeShapes Go.WideShapes Go.ChangeAt Go.RowKit
set_option linter.unusedSimpArgs false
def gcP (n d : Int) : Int := ((Nat.gcd n.natAbs d.toNat : Nat) : Int)
def fraN (n d : Int) : Int := n.tdiv (gcP n d)
def fraD (n d : Int) : Int := d.tdiv (gcP n d)
theorem gcP_pos (n : Int) {d : Int} (hd : 0 < d) : 0 < gcP n d ∧ gcP n d ≤ d := by
  unfold gcP
  have h1 : 0 < Nat.gcd n.natAbs d.toNat := Nat.gcd_pos_of_pos_right _ (by omega)
  have h2 : Nat.gcd n.natAbs d.toNat ≤ d.toNat := Nat.gcd_le_right _ (by omega)
  omega
theorem tdiv_bd (n : Int) {g : Int} (hg : 0 < g) {M : Int} (h : -M ≤ n ∧ n ≤ M) : -M ≤ n.tdiv g ∧ n.tdiv g ≤ M := by
  have h1 : (n.tdiv g).natAbs = n.natAbs / g.natAbs := Int.natAbs_tdiv ..
  have h2 : n.natAbs / g.natAbs ≤ n.natAbs := Nat.div_le_self ..
  omega
theorem set4 (W : World) (g : Nat) (a b c d u0 u1 u2 u3 : Value) (k0 : W.cell? ⟨g, 0, none⟩ = some u0) (k1 : W.cell? ⟨g, 1, none⟩ = some u1) (k2 : W.cell? ⟨g, 2, none⟩ = some u2) (k3 : W.cell? ⟨g, 3, none⟩ = some u3) :
    ∃ W', W' = (((W.setCell ⟨g, 0, none⟩ a).setCell ⟨g, 1, none⟩ b).setCell ⟨g, 2, none⟩ c).setCell ⟨g, 3, none⟩ d ∧
    W'.cell? ⟨g, 0, none⟩ = some a ∧ W'.cell? ⟨g, 1, none⟩ = some b ∧ W'.cell? ⟨g, 2, none⟩ = some c ∧ W'.cell? ⟨g, 3, none⟩ = some d ∧
    (∀ p, W'.frozen? p = W.frozen? p) ∧ W.grownBy W' (some g) := by
  have hin : ∀ i, i < [a, b, c, d].length → (W.cell? ⟨g, 0 + i, none⟩).isSome = true := fun i hi => by
    simp only [List.length_cons, List.length_nil] at hi
    rw [Nat.zero_add]
    have : i = 0 ∨ i = 1 ∨ i = 2 ∨ i = 3 := by omega
    rcases this with rfl | rfl | rfl | rfl
    · rw [k0]; rfl
    · rw [k1]; rfl
    · rw [k2]; rfl
    · rw [k3]; rfl
  exact ⟨_, rfl, World.cell?_setCells_in g [a, b, c, d] 0 W hin 0 (by simp), World.cell?_setCells_in g [a, b, c, d] 0 W hin 1 (by simp), World.cell?_setCells_in g [a, b, c, d] 0 W hin 2 (by simp), World.cell?_setCells_in g [a, b, c, d] 0 W hin 3 (by simp), fun p => frozen_setCells g p [a, b, c, d] 0 W, grownBy_setCells W g [a, b, c, d] 0⟩
theorem set5 (W : World) (g : Nat) (a b c d e u0 u1 u2 u3 u4 : Value) (k0 : W.cell? ⟨g, 0, none⟩ = some u0) (k1 : W.cell? ⟨g, 1, none⟩ = some u1) (k2 : W.cell? ⟨g, 2, none⟩ = some u2) (k3 : W.cell? ⟨g, 3, none⟩ = some u3) (k4 : W.cell? ⟨g, 4, none⟩ = some u4) :
    ∃ W', W' = ((((W.setCell ⟨g, 0, none⟩ a).setCell ⟨g, 1, none⟩ b).setCell ⟨g, 2, none⟩ c).setCell ⟨g, 3, none⟩ d).setCell ⟨g, 4, none⟩ e ∧
    W'.cell? ⟨g, 0, none⟩ = some a ∧ W'.cell? ⟨g, 1, none⟩ = some b ∧ W'.cell? ⟨g, 2, none⟩ = some c ∧ W'.cell? ⟨g, 3, none⟩ = some d ∧ W'.cell? ⟨g, 4, none⟩ = some e ∧
    (∀ p, W'.frozen? p = W.frozen? p) ∧ W.grownBy W' (some g) := by
  have hin : ∀ i, i < [a, b, c, d, e].length → (W.cell? ⟨g, 0 + i, none⟩).isSome = true := fun i hi => by
    simp only [List.length_cons, List.length_nil] at hi
    rw [Nat.zero_add]
    have : i = 0 ∨ i = 1 ∨ i = 2 ∨ i = 3 ∨ i = 4 := by omega
    rcases this with rfl | rfl | rfl | rfl | rfl
    · rw [k0]; rfl
    · rw [k1]; rfl
    · rw [k2]; rfl
    · rw [k3]; rfl
    · rw [k4]; rfl
  exact ⟨_, rfl, World.cell?_setCells_in g [a, b, c, d, e] 0 W hin 0 (by simp), World.cell?_setCells_in g [a, b, c, d, e] 0 W hin 1 (by simp), World.cell?_setCells_in g [a, b, c, d, e] 0 W hin 2 (by simp), World.cell?_setCells_in g [a, b, c, d, e] 0 W hin 3 (by simp), World.cell?_setCells_in g [a, b, c, d, e] 0 W hin 4 (by simp), fun p => frozen_setCells g p [a, b, c, d, e] 0 W, grownBy_setCells W g [a, b, c, d, e] 0⟩
set_option maxHeartbeats 1000000 in
theorem c_impl_divisor (m k : Nat) (w : World) (hm : m ≤ 1000000000000) (hk : k ≤ 1000000000000) :
    Calls Try.prog 141 #[.int .i64 m, .int .i64 k] w fun e w' => e = .returned (.int .i64 (Nat.gcd m k : Nat)) ∧ Below w.heap.size w w' := by
  go_enter Try.func141, Try.ntmps141
  go_wp2
  go_loopw [0, 1] (fun a b wr => ∃ x y : Nat, a = .int .i64 x ∧ b = .int .i64 y ∧ Hid (Nat.gcd x y = Nat.gcd m k) ∧ x ≤ 1000000000000 ∧ y ≤ 1000000000000 ∧ Below w.heap.size w wr) (fun _ b _ => (intOf b).toNat)
  case atStart => exact ⟨m, k, rfl, rfl, Lib.hid rfl, hm, hk, Below.refl _ _⟩
  case round =>
    obtain ⟨x, y, rfl, rfl, HG, hx, hy, B0⟩ := hrel
    by_cases h0 : y = 0
    · subst h0
      have HR : Hid (Nat.gcd m k = x) := by unfold Hid; rw [← HG.out]; simp
      go_wp2
      go_ret
      exact ⟨by rw [HR.out]; rfl, B0⟩
    · have t0 : ((y : Int) != 0) = true := by simpa using h0
      have hpos : (0 : Int) < (y : Int) := by omega
      have HG2 : Hid (Nat.gcd y (x % y) = Nat.gcd m k) := by unfold Hid; rw [← HG.out, Nat.gcd_comm y, ← Nat.gcd_rec, Nat.gcd_comm]
      have hlt := Nat.mod_lt x (show y > 0 by omega)
      go_wp2
      go_quiet (fail)
      go_wp2
      go_roundw
      case rel => exact ⟨y, x % y, rfl, by simp, HG2, hy, by omega, by (repeat (first | (with_reducible assumption) | (with_reducible exact Below.refl _ _) | (with_reducible refine Below.setCell ?_ (by first | (simp; done) | (simp; omega)) _) | (with_reducible refine Below.al ?_ _) | (with_reducible refine Below.dr ?_) | (with_reducible refine Below.drN ?_ _) | (with_reducible refine Below.tr ?_ (by with_reducible assumption))))⟩
      case measure => simp [intOf]; (try omega)
theorem c_impl_absolute (n : Int) (w : World) (hn : -1000000000000 ≤ n ∧ n ≤ 1000000000000) :
    Calls Try.prog 142 #[.int .i64 n] w fun e w' => e = .returned (.int .i64 (n.natAbs : Nat)) ∧ w = w' := by
  by_cases h : n < 0
  · have HR : Hid (-n = ((n.natAbs : Nat) : Int)) := by unfold Hid; omega
    go_enter Try.func142, Try.ntmps142
    go_wp2
    go_ret
    exact ⟨by rw [← HR.out]; rfl, rfl⟩
  · have HR : Hid (n = ((n.natAbs : Nat) : Int)) := by unfold Hid; omega
    go_enter Try.func142, Try.ntmps142
    go_wp2
    go_ret
    exact ⟨by rw [← HR.out]; rfl, rfl⟩
set_option maxHeartbeats 1000000 in
theorem c_impl_fraction (n d : Int) (w : World) (hn : -1000000000000 ≤ n ∧ n ≤ 1000000000000) (hd : 0 < d ∧ d ≤ 1000000000000) :
    Calls Try.prog 134 #[.int .i64 n, .int .i64 d] w fun e w' => e = .returned (.agg #[.int .i64 (fraN n d), .int .i64 (fraD n d)]) ∧ Below w.heap.size w w' := by
  obtain ⟨W0, hW0, k0, k1, B0⟩ := oneState w 69 0 0
  have f0 : W0.frozen? ⟨w.heap.size, 0, none⟩ = false := by rw [hW0]; go_simp
  have f1 : W0.frozen? ⟨w.heap.size, 1, none⟩ = false := by rw [hW0]; go_simp
  obtain ⟨hg1, hg2⟩ := gcP_pos n hd.1
  have hq1 := tdiv_bd n hg1 hn
  have hq2 := tdiv_bd d hg1 (M := 1000000000000) ⟨by omega, hd.2⟩
  have hdn : ((d.toNat : Nat) : Int) = d := by omega
  have hna : n.natAbs ≤ 1000000000000 := by omega
  have HQ1 : Hid (n.tdiv (gcP n d) = fraN n d) := rfl
  have HQ2 : Hid (d.tdiv (gcP n d) = fraD n d) := rfl
  go_enter Try.func134, Try.ntmps134
  go_wp2_with fail
  rw [← hW0]
  clear hW0
  refine (c_impl_absolute n _ hn).mono ?_; rintro e w1 ⟨rfl, rfl⟩
  go_wp2_with fail
  rw [← hdn]
  refine (c_impl_divisor n.natAbs d.toNat _ hna (by omega)).mono ?_; rintro e w2 ⟨rfl, hb2⟩
  rw [hdn]
  have g0 := keepc hb2 k0
  have g1 := keepc hb2 k1
  have e0 := frozenc hb2 k0 f0
  have e1 := frozenc hb2 k1 f1
  obtain ⟨G, HG⟩ : ∃ G, Hid (gcP n d = G) := ⟨_, Lib.hid rfl⟩
  have HG2 : Hid (((Nat.gcd n.natAbs d.toNat : Nat) : Int) = G) := HG
  rw [HG2.out]
  rw [HG.out] at HQ1 HQ2 hg1 hg2 hq1 hq2
  have hg0 : (G == 0) = false := by simp; omega
  have hg3 : G ≠ 0 := by omega
  go_wp2_with fail
  go_region
  obtain ⟨X0, X1, -, hg⟩ := set2 w2 w.heap.size (.int .i64 (n.tdiv G)) (.int .i64 (d.tdiv G)) _ _ g0 g1
  have BZ := ((B0.tr hb2).setCell (p := ⟨w.heap.size, 0, none⟩) (Nat.le_refl _) (.int .i64 (n.tdiv G))).setCell (p := ⟨w.heap.size, 1, none⟩) (Nat.le_refl _) (.int .i64 (d.tdiv G))
  generalize ((w2.setCell ⟨w.heap.size, 0, none⟩ (.int .i64 (n.tdiv G))).setCell ⟨w.heap.size, 1, none⟩ (.int .i64 (d.tdiv G))) = wz at *
  go_wp2
  exact bodyPost_ret (v := .agg #[.int .i64 (n.tdiv G), .int .i64 (d.tdiv G)]) (by simp [results, Try.results134, go_sem, X0, X1]) rfl ⟨by rw [HQ1.out, HQ2.out], by first | exact BZ | exact BZ.drew⟩
end Go.Proofs.Ytpcaaohdlcoplaa
end
section
set_option linter.unusedVariables false
namespace Go.Proofs.Ytpcaaohdlcoplaa
open Go.ChangeShapes Go.WideShapes Go.ChangeAt Go.RowKit
set_option linter.unusedSimpArgs false
theorem mulb {a b : Int} {A C : Nat} (ha : a.natAbs ≤ A) (hb : b.natAbs ≤ C) : (a * b).natAbs ≤ A * C := by
  rw [Int.natAbs_mul]; exact Nat.mul_le_mul ha hb
theorem bt_bd {b B : Int} {M : Nat} (hb : b.natAbs ≤ M) (hB : 2 ≤ B ∧ B ≤ 30) : (b * B).natAbs ≤ M * 30 := mulb hb (by omega)
def sideP (h x : Int) : Int := if h = 0 then -x else x
theorem sideP_bd (h : Int) {x : Int} {M : Nat} (hx : x.natAbs ≤ M) : (sideP h x).natAbs ≤ M := by
  unfold sideP; split <;> omega
theorem side0 {h : Int} (e : h = 0) (x : Int) : Hid (sideP h x = -x) := by unfold Hid sideP; rw [if_pos e]
theorem side1 {h : Int} (e : ¬ h = 0) (x : Int) : Hid (sideP h x = x) := by unfold Hid sideP; rw [if_neg e]
theorem c_impl_side (h x : Int) (w : World) (hx : -10000 ≤ x ∧ x ≤ 10000) :
    Calls Try.prog 139 #[.int .i64 h, .int .i64 x] w fun e w' => e = .returned (.int .i64 (sideP h x)) ∧ w = w' := by
  by_cases h0 : h = 0
  · have HS := side0 h0 x
    have t0 : (h == 0) = true := by simpa using h0
    clear h0
    go_enter Try.func139, Try.ntmps139
    go_wp2
    go_ret
    exact ⟨by rw [HS.out]; rfl, rfl⟩
  · have HS := side1 h0 x
    have t0 : (h == 0) = false := by simpa using h0
    clear h0
    go_enter Try.func139, Try.ntmps139
    go_wp2
    go_ret
    exact ⟨by rw [HS.out]; rfl, rfl⟩
theorem c_impl_HandOf (b : Int) (w : World) (hb : -100000 ≤ b ∧ b ≤ 100000) :
    Calls Try.prog 138 #[.int .i64 b] w fun e w' => e = .returned (.int .i64 (b % 2)) ∧ w = w' := by
  have h1 := tmod_bd b 2 (by omega)
  have HM : Hid ((b.tmod 2) % 2 = b % 2) := by
    unfold Hid
    have := modI b 2
    rw [Int.add_emod_right] at this
    exact this
  go_enter Try.func138, Try.ntmps138
  go_wp2_with fail
  refine (c_impl_modulo _ 2 _ (by omega) (by omega)).mono ?_; rintro e w2 ⟨rfl, rfl⟩
  rw [HM.out]
  go_wp2
  go_ret
  exact ⟨rfl, rfl⟩
theorem c_impl_throwAt (p : List Int) (b : Int) (v : Value) (w : World) (hr : RdI w v p) (hn : 1 ≤ p.length ∧ p.length ≤ 12) (hb : -100000 ≤ b ∧ b ≤ 100000) :
    Calls Try.prog 132 #[v, .int .i64 b] w fun e w' => e = .returned (.int .i64 (atP p b)) ∧ w = w' := by
  obtain ⟨a1, cap1, rfl, hl1, hc1⟩ := hr
  have h1 : 0 ≤ b % (p.length : Int) := Int.emod_nonneg _ (by omega)
  have h2 : b % (p.length : Int) < p.length := Int.emod_lt_of_pos _ (by omega)
  obtain ⟨b1, o1, rfl, hx⟩ := hc1 (b % (p.length : Int)).toNat (by omega)
  have HA : Hid (p.getD (b % (p.length : Int)).toNat 0 = atP p b) := rfl
  rw [HA.out] at hx
  have e1 : (((b % (p.length : Int)).toNat : Nat) : Int) = b % (p.length : Int) := by omega
  generalize hM : (b % (p.length : Int)).toNat = M at *
  have HE1 := Lib.hid e1
  go_enter Try.func132, Try.ntmps132
  go_wp2_with fail
  refine (c_impl_period p.length _ _ _ (by omega)).mono ?_; rintro e w2 ⟨rfl, rfl⟩
  go_wp2_with fail
  refine (c_impl_modulo b (p.length : Int) _ (by omega) (by omega)).mono ?_; rintro e w2 ⟨rfl, rfl⟩
  rw [← HE1.out]
  go_wp2
  go_ret
  exact ⟨rfl, rfl⟩
theorem boxFl (w : World) (a b c d : Int) : ∃ W0, W0 = w.alloc (Obj.cells #[Value.int IntKind.i64 a, Value.int IntKind.i64 b, Value.int IntKind.i64 c, Value.int IntKind.i64 d] 144) ∧
    W0.cell? ⟨w.heap.size, 0, none⟩ = some (.int .i64 a) ∧ W0.cell? ⟨w.heap.size, 1, none⟩ = some (.int .i64 b) ∧ W0.cell? ⟨w.heap.size, 2, none⟩ = some (.int .i64 c) ∧ W0.cell? ⟨w.heap.size, 3, none⟩ = some (.int .i64 d) ∧ Below w.heap.size w W0 := by
  refine ⟨_, rfl, ?_, ?_, ?_, ?_, (Below.refl _ _).al _⟩ <;> go_simp
/-- the side of a flight at a tick, times its duration, and its height -/
def alongP (x1 x2 t1 t2 t : Int) : Int := x1 * (t2 - t) + x2 * (t - t1)
def highP (t1 t2 t : Int) : Int := (t - t1) * (t2 - t)
def flB (x1 x2 t1 t2 t : Int) : Prop := x1.natAbs ≤ 100 ∧ x2.natAbs ≤ 100 ∧ t1.natAbs ≤ 100000 ∧ t2.natAbs ≤ 100000 ∧ t.natAbs ≤ 100000
theorem alongP_bd {x1 x2 t1 t2 t : Int} (h : flB x1 x2 t1 t2 t) : (x1 * (t2 - t)).natAbs ≤ 20000000 ∧ (x2 * (t - t1)).natAbs ≤ 20000000 ∧ (alongP x1 x2 t1 t2 t).natAbs ≤ 40000000 ∧ (highP t1 t2 t).natAbs ≤ 40000000000 := by
  obtain ⟨h1, h2, h3, h4, h5⟩ := h
  have a1 := mulb (a := x1) (b := t2 - t) (A := 100) (C := 200000) h1 (by omega)
  have a2 := mulb (a := x2) (b := t - t1) (A := 100) (C := 200000) h2 (by omega)
  have a3 := mulb (a := t - t1) (b := t2 - t) (A := 200000) (C := 200000) (by omega) (by omega)
  unfold alongP highP
  omega
set_option maxHeartbeats 1000000 in
theorem c_impl_along (x1 x2 t1 t2 t : Int) (w : World) (h : flB x1 x2 t1 t2 t) :
    Calls Try.prog 135 #[.agg #[.int .i64 x1, .int .i64 x2, .int .i64 t1, .int .i64 t2], .int .i64 t] w fun e w' => e = .returned (.int .i64 (alongP x1 x2 t1 t2 t)) ∧ Below w.heap.size w w' := by
  obtain ⟨W0, hW0, k0, k1, k2, k3, B0⟩ := boxFl w x1 x2 t1 t2
  obtain ⟨a1, a2, a3, -⟩ := alongP_bd h
  have HA : Hid (x1 * (t2 - t) + x2 * (t - t1) = alongP x1 x2 t1 t2 t) := rfl
  obtain ⟨h1, h2, h3, h4, h5⟩ := h
  obtain ⟨M1, HM1⟩ : ∃ M, Hid (x1 * (t2 - t) = M) := ⟨_, Lib.hid rfl⟩
  obtain ⟨M2, HM2⟩ : ∃ M, Hid (x2 * (t - t1) = M) := ⟨_, Lib.hid rfl⟩
  rw [HM1.out, HM2.out] at HA
  rw [HM1.out] at a1
  rw [HM2.out] at a2
  have hw1 : IntKind.i64.wrap (x1 * (t2 - t)) = M1 := by rw [HM1.out]; exact IntWalk.i64_in _ (by omega)
  have hw2 : IntKind.i64.wrap (x2 * (t - t1)) = M2 := by rw [HM2.out]; exact IntWalk.i64_in _ (by omega)
  go_enter Try.func135, Try.ntmps135
  go_wp2_with fail
  rw [← hW0]
  clear hW0
  go_wp2
  go_ret
  exact ⟨by rw [← HA.out]; rfl, B0⟩
set_option maxHeartbeats 1000000 in
theorem c_impl_height (x1 x2 t1 t2 t : Int) (w : World) (h : flB x1 x2 t1 t2 t) :
    Calls Try.prog 137 #[.agg #[.int .i64 x1, .int .i64 x2, .int .i64 t1, .int .i64 t2], .int .i64 t] w fun e w' => e = .returned (.int .i64 (highP t1 t2 t)) ∧ Below w.heap.size w w' := by
  obtain ⟨W0, hW0, k0, k1, k2, k3, B0⟩ := boxFl w x1 x2 t1 t2
  obtain ⟨-, -, -, a3⟩ := alongP_bd h
  have HA : Hid ((t - t1) * (t2 - t) = highP t1 t2 t) := rfl
  obtain ⟨h1, h2, h3, h4, h5⟩ := h
  have hw1 : IntKind.i64.wrap ((t - t1) * (t2 - t)) = highP t1 t2 t := by rw [HA.out]; exact IntWalk.i64_in _ (by omega)
  go_enter Try.func137, Try.ntmps137
  go_wp2_with fail
  rw [← hW0]
  clear hW0
  go_wp2
  go_ret
  exact ⟨rfl, B0⟩
theorem c_impl_duration (x1 x2 t1 t2 : Int) (w : World) (h3 : t1.natAbs ≤ 100000) (h4 : t2.natAbs ≤ 100000) :
    Calls Try.prog 136 #[.agg #[.int .i64 x1, .int .i64 x2, .int .i64 t1, .int .i64 t2]] w fun e w' => e = .returned (.int .i64 (t2 - t1)) ∧ Below w.heap.size w w' := by
  obtain ⟨W0, hW0, k0, k1, k2, k3, B0⟩ := boxFl w x1 x2 t1 t2
  go_enter Try.func136, Try.ntmps136
  go_wp2_with fail
  rw [← hW0]
  clear hW0
  go_wp2
  go_ret
  exact ⟨rfl, B0⟩
end Go.Proofs.Ytpcaaohdlcoplaa
end
