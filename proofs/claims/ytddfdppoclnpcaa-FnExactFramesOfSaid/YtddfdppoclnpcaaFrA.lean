/- Contracts: common divisors and fractions. -/
import Derived.Test.YtddfdppoclnpcaaPatW
namespace Go.Proofs.Ytddfdppoclnpcaa
open Go.ChangeShapes Go.WideShapes Go.ChangeAt Go.RowKit
set_option linter.unusedVariables false
set_option linter.unusedSimpArgs false
def gcP (n d : Int) : Int := ((Nat.gcd n.natAbs d.toNat : Nat) : Int)
def fraN (n d : Int) : Int := n.tdiv (gcP n d)
def fraD (n d : Int) : Int := d.tdiv (gcP n d)
theorem gcP_pos (n : Int) {d : Int} (hd : 0 < d) : 0 < gcP n d ∧ gcP n d ≤ d := by
  unfold gcP
  have h1 : 0 < Nat.gcd n.natAbs d.toNat := Nat.gcd_pos_of_pos_right _ (by omega)
  have h2 : Nat.gcd n.natAbs d.toNat ≤ d.toNat := Nat.gcd_le_right _ (by omega)
  omega
theorem tdiv_bd (n : Int) {g : Int} (hg : 0 < g) {M : Int} (h : -M ≤ n ∧ n ≤ M) : -M ≤ n.tdiv g ∧ n.tdiv g ≤ M := by
  have h1 : (n.tdiv g).natAbs = n.natAbs / g.natAbs := Int.natAbs_tdiv ..
  have h2 : n.natAbs / g.natAbs ≤ n.natAbs := Nat.div_le_self ..
  omega
theorem set4 (W : World) (g : Nat) (a b c d u0 u1 u2 u3 : Value) (k0 : W.cell? ⟨g, 0, none⟩ = some u0) (k1 : W.cell? ⟨g, 1, none⟩ = some u1) (k2 : W.cell? ⟨g, 2, none⟩ = some u2) (k3 : W.cell? ⟨g, 3, none⟩ = some u3) :
    ∃ W', W' = (((W.setCell ⟨g, 0, none⟩ a).setCell ⟨g, 1, none⟩ b).setCell ⟨g, 2, none⟩ c).setCell ⟨g, 3, none⟩ d ∧
    W'.cell? ⟨g, 0, none⟩ = some a ∧ W'.cell? ⟨g, 1, none⟩ = some b ∧ W'.cell? ⟨g, 2, none⟩ = some c ∧ W'.cell? ⟨g, 3, none⟩ = some d ∧
    (∀ p, W'.frozen? p = W.frozen? p) ∧ W.grownBy W' (some g) := by
  have hin : ∀ i, i < [a, b, c, d].length → (W.cell? ⟨g, 0 + i, none⟩).isSome = true := fun i hi => by
    simp only [List.length_cons, List.length_nil] at hi
    rw [Nat.zero_add]
    have : i = 0 ∨ i = 1 ∨ i = 2 ∨ i = 3 := by omega
    rcases this with rfl | rfl | rfl | rfl
    · rw [k0]; rfl
    · rw [k1]; rfl
    · rw [k2]; rfl
    · rw [k3]; rfl
  exact ⟨_, rfl, World.cell?_setCells_in g [a, b, c, d] 0 W hin 0 (by simp), World.cell?_setCells_in g [a, b, c, d] 0 W hin 1 (by simp), World.cell?_setCells_in g [a, b, c, d] 0 W hin 2 (by simp), World.cell?_setCells_in g [a, b, c, d] 0 W hin 3 (by simp), fun p => frozen_setCells g p [a, b, c, d] 0 W, grownBy_setCells W g [a, b, c, d] 0⟩
theorem set5 (W : World) (g : Nat) (a b c d e u0 u1 u2 u3 u4 : Value) (k0 : W.cell? ⟨g, 0, none⟩ = some u0) (k1 : W.cell? ⟨g, 1, none⟩ = some u1) (k2 : W.cell? ⟨g, 2, none⟩ = some u2) (k3 : W.cell? ⟨g, 3, none⟩ = some u3) (k4 : W.cell? ⟨g, 4, none⟩ = some u4) :
    ∃ W', W' = ((((W.setCell ⟨g, 0, none⟩ a).setCell ⟨g, 1, none⟩ b).setCell ⟨g, 2, none⟩ c).setCell ⟨g, 3, none⟩ d).setCell ⟨g, 4, none⟩ e ∧
    W'.cell? ⟨g, 0, none⟩ = some a ∧ W'.cell? ⟨g, 1, none⟩ = some b ∧ W'.cell? ⟨g, 2, none⟩ = some c ∧ W'.cell? ⟨g, 3, none⟩ = some d ∧ W'.cell? ⟨g, 4, none⟩ = some e ∧
    (∀ p, W'.frozen? p = W.frozen? p) ∧ W.grownBy W' (some g) := by
  have hin : ∀ i, i < [a, b, c, d, e].length → (W.cell? ⟨g, 0 + i, none⟩).isSome = true := fun i hi => by
    simp only [List.length_cons, List.length_nil] at hi
    rw [Nat.zero_add]
    have : i = 0 ∨ i = 1 ∨ i = 2 ∨ i = 3 ∨ i = 4 := by omega
    rcases this with rfl | rfl | rfl | rfl | rfl
    · rw [k0]; rfl
    · rw [k1]; rfl
    · rw [k2]; rfl
    · rw [k3]; rfl
    · rw [k4]; rfl
  exact ⟨_, rfl, World.cell?_setCells_in g [a, b, c, d, e] 0 W hin 0 (by simp), World.cell?_setCells_in g [a, b, c, d, e] 0 W hin 1 (by simp), World.cell?_setCells_in g [a, b, c, d, e] 0 W hin 2 (by simp), World.cell?_setCells_in g [a, b, c, d, e] 0 W hin 3 (by simp), World.cell?_setCells_in g [a, b, c, d, e] 0 W hin 4 (by simp), fun p => frozen_setCells g p [a, b, c, d, e] 0 W, grownBy_setCells W g [a, b, c, d, e] 0⟩
set_option maxHeartbeats 1000000 in
theorem c_impl_divisor (m k : Nat) (w : World) (hm : m ≤ 1000000000000) (hk : k ≤ 1000000000000) :
    Calls Try.prog 163 #[.int .i64 m, .int .i64 k] w fun e w' => e = .returned (.int .i64 (Nat.gcd m k : Nat)) ∧ Below w.heap.size w w' := by
  go_enter Try.func163, Try.ntmps163
  go_wp2
  go_loopw [0, 1] (fun a b wr => ∃ x y : Nat, a = .int .i64 x ∧ b = .int .i64 y ∧ Hid (Nat.gcd x y = Nat.gcd m k) ∧ x ≤ 1000000000000 ∧ y ≤ 1000000000000 ∧ Below w.heap.size w wr) (fun _ b _ => (intOf b).toNat)
  case atStart => exact ⟨m, k, rfl, rfl, Lib.hid rfl, hm, hk, Below.refl _ _⟩
  case round =>
    obtain ⟨x, y, rfl, rfl, HG, hx, hy, B0⟩ := hrel
    by_cases h0 : y = 0
    · subst h0
      have HR : Hid (Nat.gcd m k = x) := by unfold Hid; rw [← HG.out]; simp
      go_wp2
      go_ret
      exact ⟨by rw [HR.out]; rfl, B0⟩
    · have t0 : ((y : Int) != 0) = true := by simpa using h0
      have hpos : (0 : Int) < (y : Int) := by omega
      have HG2 : Hid (Nat.gcd y (x % y) = Nat.gcd m k) := by unfold Hid; rw [← HG.out, Nat.gcd_comm y, ← Nat.gcd_rec, Nat.gcd_comm]
      have hlt := Nat.mod_lt x (show y > 0 by omega)
      go_wp2
      go_quiet (fail)
      go_wp2
      go_roundw
      case rel => exact ⟨y, x % y, rfl, by simp, HG2, hy, by omega, by (repeat (first | (with_reducible assumption) | (with_reducible exact Below.refl _ _) | (with_reducible refine Below.setCell ?_ (by first | (simp; done) | (simp; omega)) _) | (with_reducible refine Below.al ?_ _) | (with_reducible refine Below.dr ?_) | (with_reducible refine Below.drN ?_ _) | (with_reducible refine Below.tr ?_ (by with_reducible assumption))))⟩
      case measure => simp [intOf]; (try omega)
set_option maxHeartbeats 1000000 in
theorem c_spec_l13Gcd (m k : Nat) (w : World) (hm : m ≤ 1000000000000) (hk : k ≤ 1000000000000) :
    Calls Try.prog 136 #[.int .i64 m, .int .i64 k] w fun e w' => e = .returned (.int .i64 (Nat.gcd m k : Nat)) ∧ Below w.heap.size w w' := by
  go_enter Try.func136, Try.ntmps136
  go_wp2
  go_loopw [0, 1] (fun a b wr => ∃ x y : Nat, a = .int .i64 x ∧ b = .int .i64 y ∧ Hid (Nat.gcd x y = Nat.gcd m k) ∧ x ≤ 1000000000000 ∧ y ≤ 1000000000000 ∧ Below w.heap.size w wr) (fun _ b _ => (intOf b).toNat)
  case atStart => exact ⟨m, k, rfl, rfl, Lib.hid rfl, hm, hk, Below.refl _ _⟩
  case round =>
    obtain ⟨x, y, rfl, rfl, HG, hx, hy, B0⟩ := hrel
    by_cases h0 : y = 0
    · subst h0
      have HR : Hid (Nat.gcd m k = x) := by unfold Hid; rw [← HG.out]; simp
      go_wp2
      go_ret
      exact ⟨by rw [HR.out]; rfl, B0⟩
    · have t0 : ((y : Int) != 0) = true := by simpa using h0
      have hpos : (0 : Int) < (y : Int) := by omega
      have HG2 : Hid (Nat.gcd y (x % y) = Nat.gcd m k) := by unfold Hid; rw [← HG.out, Nat.gcd_comm y, ← Nat.gcd_rec, Nat.gcd_comm]
      have hlt := Nat.mod_lt x (show y > 0 by omega)
      go_wp2
      go_roundw
      case rel => exact ⟨y, x % y, rfl, by simp, HG2, hy, by omega, by (repeat (first | (with_reducible assumption) | (with_reducible exact Below.refl _ _) | (with_reducible refine Below.setCell ?_ (by first | (simp; done) | (simp; omega)) _) | (with_reducible refine Below.al ?_ _) | (with_reducible refine Below.dr ?_) | (with_reducible refine Below.drN ?_ _) | (with_reducible refine Below.tr ?_ (by with_reducible assumption))))⟩
      case measure => simp [intOf]; (try omega)
theorem c_impl_absolute (n : Int) (w : World) (hn : -1000000000000 ≤ n ∧ n ≤ 1000000000000) :
    Calls Try.prog 164 #[.int .i64 n] w fun e w' => e = .returned (.int .i64 (n.natAbs : Nat)) ∧ w = w' := by
  by_cases h : n < 0
  · have HR : Hid (-n = ((n.natAbs : Nat) : Int)) := by unfold Hid; omega
    go_enter Try.func164, Try.ntmps164
    go_wp2
    go_ret
    exact ⟨by rw [← HR.out]; rfl, rfl⟩
  · have HR : Hid (n = ((n.natAbs : Nat) : Int)) := by unfold Hid; omega
    go_enter Try.func164, Try.ntmps164
    go_wp2
    go_ret
    exact ⟨by rw [← HR.out]; rfl, rfl⟩
theorem c_spec_l16Size (n : Int) (w : World) (hn : -1000000000000 ≤ n ∧ n ≤ 1000000000000) :
    Calls Try.prog 137 #[.int .i64 n] w fun e w' => e = .returned (.int .i64 (n.natAbs : Nat)) ∧ w = w' := by
  by_cases h : n < 0
  · have HR : Hid (-n = ((n.natAbs : Nat) : Int)) := by unfold Hid; omega
    go_enter Try.func137, Try.ntmps137
    go_wp2
    go_ret
    exact ⟨by rw [← HR.out]; rfl, rfl⟩
  · have HR : Hid (n = ((n.natAbs : Nat) : Int)) := by unfold Hid; omega
    go_enter Try.func137, Try.ntmps137
    go_wp2
    go_ret
    exact ⟨by rw [← HR.out]; rfl, rfl⟩
set_option maxHeartbeats 1000000 in
theorem c_impl_fraction (n d : Int) (w : World) (hn : -1000000000000 ≤ n ∧ n ≤ 1000000000000) (hd : 0 < d ∧ d ≤ 1000000000000) :
    Calls Try.prog 141 #[.int .i64 n, .int .i64 d] w fun e w' => e = .returned (.agg #[.int .i64 (fraN n d), .int .i64 (fraD n d)]) ∧ Below w.heap.size w w' := by
  obtain ⟨W0, hW0, k0, k1, B0⟩ := oneState w 49 0 0
  have f0 : W0.frozen? ⟨w.heap.size, 0, none⟩ = false := by rw [hW0]; go_simp
  have f1 : W0.frozen? ⟨w.heap.size, 1, none⟩ = false := by rw [hW0]; go_simp
  obtain ⟨hg1, hg2⟩ := gcP_pos n hd.1
  have hq1 := tdiv_bd n hg1 hn
  have hq2 := tdiv_bd d hg1 (M := 1000000000000) ⟨by omega, hd.2⟩
  have hdn : ((d.toNat : Nat) : Int) = d := by omega
  have hna : n.natAbs ≤ 1000000000000 := by omega
  have HQ1 : Hid (n.tdiv (gcP n d) = fraN n d) := rfl
  have HQ2 : Hid (d.tdiv (gcP n d) = fraD n d) := rfl
  go_enter Try.func141, Try.ntmps141
  go_wp2_with fail
  rw [← hW0]
  clear hW0
  refine (c_impl_absolute n _ hn).mono ?_; rintro e w1 ⟨rfl, rfl⟩
  go_wp2_with fail
  rw [← hdn]
  refine (c_impl_divisor n.natAbs d.toNat _ hna (by omega)).mono ?_; rintro e w2 ⟨rfl, hb2⟩
  rw [hdn]
  have g0 := keepc hb2 k0
  have g1 := keepc hb2 k1
  have e0 := frozenc hb2 k0 f0
  have e1 := frozenc hb2 k1 f1
  obtain ⟨G, HG⟩ : ∃ G, Hid (gcP n d = G) := ⟨_, Lib.hid rfl⟩
  have HG2 : Hid (((Nat.gcd n.natAbs d.toNat : Nat) : Int) = G) := HG
  rw [HG2.out]
  rw [HG.out] at HQ1 HQ2 hg1 hg2 hq1 hq2
  have hg0 : (G == 0) = false := by simp; omega
  have hg3 : G ≠ 0 := by omega
  go_wp2_with fail
  go_region
  obtain ⟨X0, X1, -, hg⟩ := set2 w2 w.heap.size (.int .i64 (n.tdiv G)) (.int .i64 (d.tdiv G)) _ _ g0 g1
  have BZ := ((B0.tr hb2).setCell (p := ⟨w.heap.size, 0, none⟩) (Nat.le_refl _) (.int .i64 (n.tdiv G))).setCell (p := ⟨w.heap.size, 1, none⟩) (Nat.le_refl _) (.int .i64 (d.tdiv G))
  generalize ((w2.setCell ⟨w.heap.size, 0, none⟩ (.int .i64 (n.tdiv G))).setCell ⟨w.heap.size, 1, none⟩ (.int .i64 (d.tdiv G))) = wz at *
  go_wp2
  exact bodyPost_ret (v := .agg #[.int .i64 (n.tdiv G), .int .i64 (d.tdiv G)]) (by simp [results, Try.results141, go_sem, X0, X1]) rfl ⟨by rw [HQ1.out, HQ2.out], by first | exact BZ | exact BZ.drew⟩
set_option maxHeartbeats 1000000 in
theorem c_spec_l16Make (n d : Int) (w : World) (hn : -1000000000000 ≤ n ∧ n ≤ 1000000000000) (hd : 0 < d ∧ d ≤ 1000000000000) :
    Calls Try.prog 105 #[.int .i64 n, .int .i64 d] w fun e w' => e = .returned (.agg #[.int .i64 (fraN n d), .int .i64 (fraD n d)]) ∧ Below w.heap.size w w' := by
  obtain ⟨W0, hW0, k0, k1, B0⟩ := oneState w 49 0 0
  have f0 : W0.frozen? ⟨w.heap.size, 0, none⟩ = false := by rw [hW0]; go_simp
  have f1 : W0.frozen? ⟨w.heap.size, 1, none⟩ = false := by rw [hW0]; go_simp
  obtain ⟨hg1, hg2⟩ := gcP_pos n hd.1
  have hq1 := tdiv_bd n hg1 hn
  have hq2 := tdiv_bd d hg1 (M := 1000000000000) ⟨by omega, hd.2⟩
  have hdn : ((d.toNat : Nat) : Int) = d := by omega
  have hna : n.natAbs ≤ 1000000000000 := by omega
  have HQ1 : Hid (n.tdiv (gcP n d) = fraN n d) := rfl
  have HQ2 : Hid (d.tdiv (gcP n d) = fraD n d) := rfl
  go_enter Try.func105, Try.ntmps105
  go_wp2_with fail
  rw [← hW0]
  clear hW0
  refine (c_spec_l16Size n _ hn).mono ?_; rintro e w1 ⟨rfl, rfl⟩
  go_wp2_with fail
  rw [← hdn]
  refine (c_spec_l13Gcd n.natAbs d.toNat _ hna (by omega)).mono ?_; rintro e w2 ⟨rfl, hb2⟩
  rw [hdn]
  have g0 := keepc hb2 k0
  have g1 := keepc hb2 k1
  have e0 := frozenc hb2 k0 f0
  have e1 := frozenc hb2 k1 f1
  obtain ⟨G, HG⟩ : ∃ G, Hid (gcP n d = G) := ⟨_, Lib.hid rfl⟩
  have HG2 : Hid (((Nat.gcd n.natAbs d.toNat : Nat) : Int) = G) := HG
  rw [HG2.out]
  rw [HG.out] at HQ1 HQ2 hg1 hg2 hq1 hq2
  have hg0 : (G == 0) = false := by simp; omega
  have hg3 : G ≠ 0 := by omega
  go_wp2_with fail
  go_region
  obtain ⟨X0, X1, -, hg⟩ := set2 w2 w.heap.size (.int .i64 (n.tdiv G)) (.int .i64 (d.tdiv G)) _ _ g0 g1
  have BZ := ((B0.tr hb2).setCell (p := ⟨w.heap.size, 0, none⟩) (Nat.le_refl _) (.int .i64 (n.tdiv G))).setCell (p := ⟨w.heap.size, 1, none⟩) (Nat.le_refl _) (.int .i64 (d.tdiv G))
  generalize ((w2.setCell ⟨w.heap.size, 0, none⟩ (.int .i64 (n.tdiv G))).setCell ⟨w.heap.size, 1, none⟩ (.int .i64 (d.tdiv G))) = wz at *
  go_wp2
  exact bodyPost_ret (v := .agg #[.int .i64 (n.tdiv G), .int .i64 (d.tdiv G)]) (by simp [results, Try.results105, go_sem, X0, X1]) rfl ⟨by rw [HQ1.out, HQ2.out], by first | exact BZ | exact BZ.drew⟩
end Go.Proofs.Ytddfdppoclnpcaa
