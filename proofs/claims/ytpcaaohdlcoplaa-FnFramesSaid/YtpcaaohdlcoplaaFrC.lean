/- FrC, FrD: laid one behind the other. -/
import Derived.Test.YtpcaaohdlcoplaaFrA
import Derived.Test.YtpcaaohdlcoplaaDot5
section
set_option linter.unusedVariables false
namespace Go.Proofs.Ytpcaaohdlcoplaa
open Go.ChangeShapes Go.WideShapes Go.ChangeAt Go.RowKit
set_option linter.unusedSimpArgs false
theorem boxTF (w : World) (a b : Int) : ∃ W0, W0 = (w.alloc (Obj.cells #[Value.int IntKind.i64 a, Value.int IntKind.i64 b] 58)).alloc (Obj.cells #[Value.int IntKind.i64 0, Value.int IntKind.i64 0, Value.int IntKind.i64 0, Value.int IntKind.i64 0] 144) ∧
    W0.cell? ⟨w.heap.size, 0, none⟩ = some (.int .i64 a) ∧ W0.cell? ⟨w.heap.size, 1, none⟩ = some (.int .i64 b) ∧
    (∀ i, i < 4 → W0.cell? ⟨w.heap.size + 1, i, none⟩ = some (.int .i64 0)) ∧ (∀ i, i < 4 → W0.frozen? ⟨w.heap.size + 1, i, none⟩ = false) ∧ Below w.heap.size w W0 := by
  refine ⟨_, rfl, ?_, ?_, ?_, ?_, ((Below.refl _ _).al _).al _⟩
  · go_simp
  · go_simp
  · intro i hi
    have : i = 0 ∨ i = 1 ∨ i = 2 ∨ i = 3 := by omega
    rcases this with rfl | rfl | rfl | rfl <;> go_simp
  · intro i hi
    have : i = 0 ∨ i = 1 ∨ i = 2 ∨ i = 3 := by omega
    rcases this with rfl | rfl | rfl | rfl <;> go_simp
set_option maxHeartbeats 4000000 in
set_option maxRecDepth 100000 in
theorem c_impl_flightOf (p : List Int) (B D x c : Int) (v : Value) (w : World) (hr : RdI w v p) (hv : validP p = true) (hB : 2 ≤ B ∧ B ≤ 30) (hD : 1 ≤ D ∧ D ≤ 60) (hx : 0 ≤ x ∧ x ≤ 16) (hc : -100 ≤ c ∧ c ≤ 3200) :
    Calls Try.prog 133 #[v, .agg #[.int .i64 B, .int .i64 D], .int .i64 x, .int .i64 c] w fun e w' => e = .returned (.agg #[.int .i64 (sideP (c % 2) x), .int .i64 (sideP ((c + atP p c) % 2) (3 * x)), .int .i64 (c * B), .int .i64 ((c + atP p c) * B - D)]) ∧ Below w.heap.size w w' := by
  obtain ⟨W0, hW0, k0, k1, kf, ff, B0⟩ := boxTF w B D
  have hln := (validP_iff.1 hv).1.2
  have hab := at_bd hv c
  have HR : Hid (RdI W0 v p) := Lib.hid (hr.below B0)
  have b1 := bt_bd (b := c) (M := 3200) (by omega) hB
  have b2 := bt_bd (b := c + atP p c) (M := 3300) (by omega) hB
  obtain ⟨a, HA⟩ : ∃ a, Hid (atP p c = a) := ⟨_, Lib.hid rfl⟩
  rw [HA.out] at hab b2
  obtain ⟨T1, HT1⟩ : ∃ M, Hid (c * B = M) := ⟨_, Lib.hid rfl⟩
  obtain ⟨T2, HT2⟩ : ∃ M, Hid ((c + a) * B = M) := ⟨_, Lib.hid rfl⟩
  rw [HT1.out] at b1
  rw [HT2.out] at b2
  have hw1 : IntKind.i64.wrap (c * B) = T1 := by rw [HT1.out]; exact IntWalk.i64_in _ (by omega)
  have hw2 : IntKind.i64.wrap ((c + a) * B) = T2 := by rw [HT2.out]; exact IntWalk.i64_in _ (by omega)
  rw [HA.out, HT1.out, HT2.out]
  clear hv hr
  go_enter Try.func133, Try.ntmps133
  go_wp2_with fail
  rw [← hW0]
  clear hW0
  refine (c_impl_throwAt p c _ _ HR.out hln (by omega)).mono ?_; rintro e w2 ⟨rfl, rfl⟩
  rw [HA.out]
  go_wp2_with fail
  have x0 := kf 0 (by omega)
  have x1 := kf 1 (by omega)
  have x2 := kf 2 (by omega)
  have x3 := kf 3 (by omega)
  have f0 := ff 0 (by omega)
  have f1 := ff 1 (by omega)
  have f2 := ff 2 (by omega)
  have f3 := ff 3 (by omega)
  clear kf ff
  have hne : ¬ w.heap.size = w.heap.size + 1 := by omega
  have hne2 : ¬ w.heap.size + 1 = w.heap.size := by omega
  have hcb : -100000 ≤ c ∧ c ≤ 100000 := by omega
  have hcb2 : -100000 ≤ c + a ∧ c + a ≤ 100000 := by omega
  have hxb : -10000 ≤ x ∧ x ≤ 10000 := by omega
  have hxb2 : -10000 ≤ 3 * x ∧ 3 * x ≤ 10000 := by omega
  have hw3 : IntKind.i64.wrap (3 * x) = 3 * x := IntWalk.i64_in _ (by omega)
  have hw4 : IntKind.i64.wrap (T2 - D) = T2 - D := IntWalk.i64_in _ (by omega)
  go_region_held3 (fun w' => w'.cell? ⟨w.heap.size, 0, none⟩ = some (.int .i64 B) ∧ w'.cell? ⟨w.heap.size, 1, none⟩ = some (.int .i64 D))
    (go_keep)
    (first
      | ((go_at_call 138; (with_reducible refine (c_impl_HandOf c _ hcb).mono ?_); rintro e w1 ⟨rfl, rfl⟩))
      | ((go_at_call 139; (with_reducible refine (c_impl_side _ x _ hxb).mono ?_); rintro e w1 ⟨rfl, rfl⟩))
      | ((go_at_call 138; (with_reducible refine (c_impl_HandOf (c + a) _ hcb2).mono ?_); rintro e w1 ⟨rfl, rfl⟩))
      | ((go_at_call 139; (with_reducible refine (c_impl_side _ (3 * x) _ hxb2).mono ?_); rintro e w1 ⟨rfl, rfl⟩)))
  obtain ⟨W4, hW4, X0, X1, X2, X3, -, -⟩ := set4 W0 (w.heap.size + 1) (.int .i64 (sideP (c % 2) x)) (.int .i64 (sideP ((c + a) % 2) (3 * x))) (.int .i64 T1) (.int .i64 (T2 - D)) _ _ _ _ x0 x1 x2 x3
  have BZ := (((B0.setCell (p := ⟨w.heap.size + 1, 0, none⟩) (Nat.le_succ _) (.int .i64 (sideP (c % 2) x))).setCell (p := ⟨w.heap.size + 1, 1, none⟩) (Nat.le_succ _) (.int .i64 (sideP ((c + a) % 2) (3 * x)))).setCell (p := ⟨w.heap.size + 1, 2, none⟩) (Nat.le_succ _) (.int .i64 T1)).setCell (p := ⟨w.heap.size + 1, 3, none⟩) (Nat.le_succ _) (.int .i64 (T2 - D))
  rw [← hW4] at BZ
  rw [← hW4]
  clear hW4
  go_wp2
  exact bodyPost_ret (v := .agg #[.int .i64 (sideP (c % 2) x), .int .i64 (sideP ((c + a) % 2) (3 * x)), .int .i64 T1, .int .i64 (T2 - D)]) (by simp [results, Try.results133, go_sem, X0, X1, X2, X3]) rfl ⟨rfl, by first | exact BZ | exact BZ.drew⟩
end Go.Proofs.Ytpcaaohdlcoplaa
end
section
set_option linter.unusedVariables false
namespace Go.Proofs.Ytpcaaohdlcoplaa
open Go.ChangeShapes Go.WideShapes Go.ChangeAt Go.RowKit
set_option linter.unusedSimpArgs false
/-- the flight that lands at beat b: its side at a tick, times its duration -/
def airX (p : List Int) (B D x t b : Int) : Int := alongP (sideP (frP p b % 2) x) (sideP (b % 2) (3 * x)) (frP p b * B) (b * B - D) t
def heldX (B D x t b : Int) : Int := alongP (sideP (b % 2) (3 * x)) (sideP (b % 2) x) (b * B - D) (b * B) t
def dotP (p : List Int) (B D x t q b : Int) : Dot5 :=
  if t < b * B - D then (q, -1, fraN (airX p B D x t b) (b * B - D - frP p b * B), fraD (airX p B D x t b) (b * B - D - frP p b * B), highP (frP p b * B) (b * B - D) t)
  else (q, b % 2, fraN (heldX B D x t b) D, fraD (heldX B D x t b) D, 0)
def aggDot (x : Dot5) : Value := .agg #[.int .i64 x.1, .int .i64 x.2.1, .int .i64 x.2.2.1, .int .i64 x.2.2.2.1, .int .i64 x.2.2.2.2]
theorem dotP_air {p : List Int} {B D x t b : Int} (q : Int) (h : t < b * B - D) : Hid (dotP p B D x t q b = (q, -1, fraN (airX p B D x t b) (b * B - D - frP p b * B), fraD (airX p B D x t b) (b * B - D - frP p b * B), highP (frP p b * B) (b * B - D) t)) := by unfold Hid dotP; rw [if_pos h]
theorem dotP_held {p : List Int} {B D x t b : Int} (q : Int) (h : ¬ t < b * B - D) : Hid (dotP p B D x t q b = (q, b % 2, fraN (heldX B D x t b) D, fraD (heldX B D x t b) D, 0)) := by unfold Hid dotP; rw [if_neg h]
theorem boxTD (w : World) (a b : Int) : ∃ W0, W0 = (w.alloc (Obj.cells #[Value.int IntKind.i64 a, Value.int IntKind.i64 b] 58)).alloc (Obj.cells #[Value.int IntKind.i64 0, Value.int IntKind.i64 0, Value.int IntKind.i64 0, Value.int IntKind.i64 0, Value.int IntKind.i64 0] 71) ∧
    W0.cell? ⟨w.heap.size, 0, none⟩ = some (.int .i64 a) ∧ W0.cell? ⟨w.heap.size, 1, none⟩ = some (.int .i64 b) ∧
    (∀ i, i < 5 → W0.cell? ⟨w.heap.size + 1, i, none⟩ = some (.int .i64 0)) ∧ (∀ i, i < 5 → W0.frozen? ⟨w.heap.size + 1, i, none⟩ = false) ∧ Below w.heap.size w W0 := by
  refine ⟨_, rfl, ?_, ?_, ?_, ?_, ((Below.refl _ _).al _).al _⟩
  · go_simp
  · go_simp
  · intro i hi
    have : i = 0 ∨ i = 1 ∨ i = 2 ∨ i = 3 ∨ i = 4 := by omega
    rcases this with rfl | rfl | rfl | rfl | rfl <;> go_simp
  · intro i hi
    have : i = 0 ∨ i = 1 ∨ i = 2 ∨ i = 3 ∨ i = 4 := by omega
    rcases this with rfl | rfl | rfl | rfl | rfl <;> go_simp
set_option maxHeartbeats 4000000 in
set_option maxRecDepth 100000 in
theorem c_impl_dotBefore (p : List Int) (B D x t q b : Int) (v : Value) (w : World) (hr : RdI w v p) (hv : validP p = true) (hB : 2 ≤ B ∧ B ≤ 30) (hD : 1 ≤ D ∧ D ≤ 60) (hx : 0 ≤ x ∧ x ≤ 16) (hb : 0 ≤ b ∧ b ≤ 3100) (ht : 0 ≤ t ∧ t ≤ 3000)
    (hfr : frP p b * B ≤ t) (hq : 0 ≤ q ∧ q ≤ 1000) :
    Calls Try.prog 118 #[v, .agg #[.int .i64 B, .int .i64 D], .int .i64 x, .int .i64 t, .int .i64 q, .int .i64 b] w fun e w' => e = .returned (aggDot (dotP p B D x t q b)) ∧ Below w.heap.size w w' := by
  obtain ⟨W0, hW0, k0, k1, kf, ff, B0⟩ := boxTD w B D
  have HR : Hid (RdI W0 v p) := Lib.hid (hr.below B0)
  have b1 := bt_bd (b := b) (M := 3200) (by omega) hB
  have hfl := fr_le hv b
  have b2 := bt_bd (b := frP p b) (M := 3200) (by omega) hB
  obtain ⟨T, HT⟩ : ∃ M, Hid (b * B = M) := ⟨_, Lib.hid rfl⟩
  rw [HT.out] at b1
  have hw1 : IntKind.i64.wrap (b * B) = T := by rw [HT.out]; exact IntWalk.i64_in _ (by omega)
  have hw2 : IntKind.i64.wrap (T - D) = T - D := IntWalk.i64_in _ (by omega)
  have hw3 : IntKind.i64.wrap (3 * x) = 3 * x := IntWalk.i64_in _ (by omega)
  have hne : ¬ w.heap.size = w.heap.size + 1 := by omega
  have hne2 : ¬ w.heap.size + 1 = w.heap.size := by omega
  have hxb : -10000 ≤ x ∧ x ≤ 10000 := by omega
  have hxb2 : -10000 ≤ 3 * x ∧ 3 * x ≤ 10000 := by omega
  clear hr
  by_cases hair : t < b * B - D
  · have HX := dotP_air (p := p) (x := x) q hair
    have HAF := Lib.hid (at_fr hv b)
    obtain ⟨c, Hc⟩ : ∃ c, Hid (frP p b = c) := ⟨_, Lib.hid rfl⟩
    have Hc2 : Hid (b - p.getD (liN p (b % (p.length : Int))) 0 = c) := Hc
    have HCF : Hid (∀ (v : Value) (w : World), RdI w v p → Calls Try.prog 133 #[v, .agg #[.int .i64 B, .int .i64 D], .int .i64 x, .int .i64 c] w fun e w' => e = .returned (.agg #[.int .i64 (sideP (c % 2) x), .int .i64 (sideP (b % 2) (3 * x)), .int .i64 (c * B), .int .i64 (b * B - D)]) ∧ Below w.heap.size w w') := fun v w hr => by
      have hc : -100 ≤ c ∧ c ≤ 3200 := by rw [Hc.out] at hfl; omega
      have := c_impl_flightOf p B D x c v w hr hv hB hD hx hc
      have e : c + atP p c = b := by rw [← Hc.out]; exact HAF.out
      rw [e] at this
      exact this
    have HV := Lib.hid hv
    unfold airX at HX
    rw [Hc.out] at hfl b2 hfr HAF HX
    rw [HT.out] at hair HX
    have hair2 : t < T - D := hair
    obtain ⟨T1, HT1⟩ : ∃ M, Hid (c * B = M) := ⟨_, Lib.hid rfl⟩
    rw [HT1.out] at b2 hfr HX
    obtain ⟨X1, HX1⟩ : ∃ M, Hid (sideP (c % 2) x = M) := ⟨_, Lib.hid rfl⟩
    obtain ⟨X2, HX2⟩ : ∃ M, Hid (sideP (b % 2) (3 * x) = M) := ⟨_, Lib.hid rfl⟩
    rw [HX1.out, HX2.out] at HX
    rw [HX1.out, HX2.out, HT1.out, HT.out] at HCF
    have hX1 := sideP_bd (c % 2) (x := x) (M := 16) (by omega)
    have hX2 := sideP_bd (b % 2) (x := 3 * x) (M := 48) (by omega)
    rw [HX1.out] at hX1
    rw [HX2.out] at hX2
    have hfb : flB X1 X2 T1 (T - D) t := ⟨by omega, by omega, by omega, by omega, by omega⟩
    obtain ⟨-, -, ha, hhi⟩ := alongP_bd hfb
    obtain ⟨A, HA⟩ : ∃ A, Hid (alongP X1 X2 T1 (T - D) t = A) := ⟨_, Lib.hid rfl⟩
    obtain ⟨Y, HY⟩ : ∃ A, Hid (highP T1 (T - D) t = A) := ⟨_, Lib.hid rfl⟩
    rw [HA.out] at ha HX
    rw [HY.out] at hhi HX
    clear hv hair
    go_enter Try.func118, Try.ntmps118
    go_wp2_with fail
    rw [← hW0]
    clear hW0
    go_quiet (fail)
    go_wp2_with fail
    obtain ⟨W1, hW1⟩ : ∃ W1, W0.drewN nq = W1 := ⟨_, rfl⟩
    have k0 : W1.cell? ⟨w.heap.size, 0, none⟩ = some (.int .i64 B) := by rw [← hW1]; exact k0
    have k1 : W1.cell? ⟨w.heap.size, 1, none⟩ = some (.int .i64 D) := by rw [← hW1]; exact k1
    have HR : Hid (RdI W1 v p) := by rw [← hW1]; exact HR
    have B1 : Below w.heap.size w W1 := by rw [← hW1]; exact B0.drN nq
    have kf : ∀ i, i < 5 → W1.cell? ⟨w.heap.size + 1, i, none⟩ = some (.int .i64 0) := by rw [← hW1]; exact kf
    have ff : ∀ i, i < 5 → W1.frozen? ⟨w.heap.size + 1, i, none⟩ = false := by rw [← hW1]; exact ff
    rw [hW1]
    clear hW1
    have x0 := kf 0 (by omega)
    have x1 := kf 1 (by omega)
    have x2 := kf 2 (by omega)
    have x3 := kf 3 (by omega)
    have x4 := kf 4 (by omega)
    have f0 := ff 0 (by omega)
    have f1 := ff 1 (by omega)
    have f2 := ff 2 (by omega)
    have f3 := ff 3 (by omega)
    have f4 := ff 4 (by omega)
    have hRa : RdI W1.drew v p := HR.out
    have hRb : RdI (W1.alloc (Obj.cells #[Value.int IntKind.i64 0, Value.int IntKind.i64 0, Value.int IntKind.i64 0, Value.int IntKind.i64 0] 144)).drew v p := HR.out.below (((Below.refl _ _).al _).dr)
    have hz1 : w.heap.size + 1 < W1.heap.size := World.block_lt_of_cell? _ _ x0
    have ne1 : ¬ W1.heap.size = w.heap.size := by omega
    have ne2 : ¬ w.heap.size = W1.heap.size := by omega
    have ne3 : ¬ W1.heap.size = w.heap.size + 1 := by omega
    have ne4 : ¬ w.heap.size + 1 = W1.heap.size := by omega
    have hbb : -100000 ≤ b ∧ b ≤ 100000 := by omega
    go_region_held3 (fun w' => w'.cell? ⟨w.heap.size, 0, none⟩ = some (.int .i64 B) ∧ w'.cell? ⟨w.heap.size, 1, none⟩ = some (.int .i64 D))
      (go_keep)
      (first
        | ((go_at_call 104; refine (c_impl_landsFrom p b _ _ (by first | exact hRa | exact hRb) HV.out hbb).mono ?_; rintro e w3 ⟨rfl, hb3⟩; rw [Hc2.out]; (first | (have hb3' := below_new hb3; have n0 := (new_cell hb3 0 _ rfl).1; have n1 := (new_cell hb3 1 _ rfl).1; have n2 := (new_cell hb3 2 _ rfl).1; have n3 := (new_cell hb3 3 _ rfl).1; have m0 := (new_cell hb3 0 _ rfl).2; have m1 := (new_cell hb3 1 _ rfl).2; have m2 := (new_cell hb3 2 _ rfl).2; have m3 := (new_cell hb3 3 _ rfl).2) | (have hb3' := below_drew hb3)); have hz3 : W1.heap.size ≤ w3.heap.size := hb3'.size; have nf1 : ¬ w3.heap.size = w.heap.size := (by omega); have nf2 : ¬ w.heap.size = w3.heap.size := (by omega); have j0 := keepc hb3' k0; have j1 := keepc hb3' k1; have hR3 := HR.out.below hb3'; have hR3n := hR3.below ((Below.refl _ _).al (Obj.cells #[Value.int IntKind.i64 0, Value.int IntKind.i64 0, Value.int IntKind.i64 0, Value.int IntKind.i64 0] 144))))
        | ((go_at_call 133; refine (HCF.out _ _ (by first | exact hR3 | exact hR3n)).mono ?_; rintro e w4 ⟨rfl, hb4⟩; have hz4 : w3.heap.size ≤ w4.heap.size := Nat.le_trans (by first | exact Nat.le_refl _ | exact Nat.le_of_lt (by simp)) hb4.size; have ng1 : ¬ w4.heap.size = w.heap.size := (by omega); have ng2 : ¬ w.heap.size = w4.heap.size := (by omega); (first | (have l0 := keepc hb4 j0; have l1 := keepc hb4 j1) | (have l0 := keepc hb4 (al_c _ j0); have l1 := keepc hb4 (al_c _ j1))); (first | (have o0 := keepc hb4 n0; have q0 := frozenc hb4 n0 m0; have o1 := keepc hb4 n1; have q1 := frozenc hb4 n1 m1; have o2 := keepc hb4 n2; have q2 := frozenc hb4 n2 m2; have o3 := keepc hb4 n3; have q3 := frozenc hb4 n3 m3) | (have o0 : w4.cell? ⟨w3.heap.size, 0, none⟩ = some (.int .i64 0) := keepc hb4 (World.cell?_alloc_at _ _ _ _ rfl); have q0 : w4.frozen? ⟨w3.heap.size, 0, none⟩ = false := frozenc hb4 (World.cell?_alloc_at _ _ _ _ rfl) (World.frozen?_alloc_at _ _ _ _ rfl); have o1 : w4.cell? ⟨w3.heap.size, 1, none⟩ = some (.int .i64 0) := keepc hb4 (World.cell?_alloc_at _ _ _ _ rfl); have q1 : w4.frozen? ⟨w3.heap.size, 1, none⟩ = false := frozenc hb4 (World.cell?_alloc_at _ _ _ _ rfl) (World.frozen?_alloc_at _ _ _ _ rfl); have o2 : w4.cell? ⟨w3.heap.size, 2, none⟩ = some (.int .i64 0) := keepc hb4 (World.cell?_alloc_at _ _ _ _ rfl); have q2 : w4.frozen? ⟨w3.heap.size, 2, none⟩ = false := frozenc hb4 (World.cell?_alloc_at _ _ _ _ rfl) (World.frozen?_alloc_at _ _ _ _ rfl); have o3 : w4.cell? ⟨w3.heap.size, 3, none⟩ = some (.int .i64 0) := keepc hb4 (World.cell?_alloc_at _ _ _ _ rfl); have q3 : w4.frozen? ⟨w3.heap.size, 3, none⟩ = false := frozenc hb4 (World.cell?_alloc_at _ _ _ _ rfl) (World.frozen?_alloc_at _ _ _ _ rfl)) | skip))))
    · obtain ⟨W5, hW5⟩ : ∃ W5, W5 = w4.alloc (Obj.cells #[Value.int IntKind.i64 X1, Value.int IntKind.i64 X2, Value.int IntKind.i64 T1, Value.int IntKind.i64 (T - D)] 144) := ⟨_, rfl⟩
      have G0 : W5.cell? ⟨w4.heap.size, 0, none⟩ = some (.int .i64 X1) := by rw [hW5]; exact World.cell?_alloc_at _ _ _ _ rfl
      have G1 : W5.cell? ⟨w4.heap.size, 1, none⟩ = some (.int .i64 X2) := by rw [hW5]; exact World.cell?_alloc_at _ _ _ _ rfl
      have G2 : W5.cell? ⟨w4.heap.size, 2, none⟩ = some (.int .i64 T1) := by rw [hW5]; exact World.cell?_alloc_at _ _ _ _ rfl
      have G3 : W5.cell? ⟨w4.heap.size, 3, none⟩ = some (.int .i64 (T - D)) := by rw [hW5]; exact World.cell?_alloc_at _ _ _ _ rfl
      have B15 : Below W1.heap.size W1 W5 := by rw [hW5]; exact (hb3'.tr hb4).al _
      rw [← hW5]
      clear hW5
      have ne5 : ¬ w4.heap.size = w.heap.size + 1 := by omega
      have ne6 : ¬ w.heap.size + 1 = w4.heap.size := by omega
      have y := fun i hi => keepc B15 (kf i hi)
      have e := fun i hi => frozenc B15 (kf i hi) (ff i hi)
      have BZ : Below w.heap.size w W5 := B1.tr B15
      have hL : 0 < T - D - T1 ∧ T - D - T1 ≤ 1000000000000 := by omega
      have hAb : -1000000000000 ≤ A ∧ A ≤ 1000000000000 := by omega
      have hT1b : T1.natAbs ≤ 100000 := by omega
      have hT2b : (T - D).natAbs ≤ 100000 := by omega
      go_wp2_with fail
      go_region_held3 (fun w' => w'.cell? ⟨w4.heap.size, 0, none⟩ = some (.int .i64 X1) ∧ w'.cell? ⟨w4.heap.size, 1, none⟩ = some (.int .i64 X2) ∧ w'.cell? ⟨w4.heap.size, 2, none⟩ = some (.int .i64 T1) ∧ w'.cell? ⟨w4.heap.size, 3, none⟩ = some (.int .i64 (T - D)))
        (go_keep)
        (first
          | ((go_at_call 135; (with_reducible refine (c_impl_along X1 X2 T1 (T - D) t _ hfb).mono ?_); rintro e5 w5 ⟨rfl, hb5⟩; rw [HA.out]; have hb5' := below_drew hb5; have a0 := keepc hb5' G0; have a1 := keepc hb5' G1; have a2 := keepc hb5' G2; have a3 := keepc hb5' G3))
          | ((go_at_call 136; (with_reducible refine (c_impl_duration X1 X2 T1 (T - D) _ hT1b hT2b).mono ?_); rintro e6 w6 ⟨rfl, hb6⟩; have c0 := keepc hb6 a0; have c1 := keepc hb6 a1; have c2 := keepc hb6 a2; have c3 := keepc hb6 a3))
          | ((go_at_call 134; (with_reducible refine (c_impl_fraction A (T - D - T1) _ hAb hL).mono ?_); rintro e7 w7 ⟨rfl, hb7⟩; have d0 := keepc hb7 c0; have d1 := keepc hb7 c1; have d2 := keepc hb7 c2; have d3 := keepc hb7 c3))
          | ((go_at_call 137; (with_reducible refine (c_impl_height X1 X2 T1 (T - D) t _ hfb).mono ?_); rintro e8 w8 ⟨rfl, hb8⟩; rw [HY.out]; have i0 := keepc hb8 d0; have i1 := keepc hb8 d1; have i2 := keepc hb8 d2; have i3 := keepc hb8 d3; have B58 := ((hb5'.tr hb6).tr hb7).tr hb8; have z0 := keepc B58 (y 0 (by omega)); have z1 := keepc B58 (y 1 (by omega)); have z2 := keepc B58 (y 2 (by omega)); have z3 := keepc B58 (y 3 (by omega)); have z4 := keepc B58 (y 4 (by omega)); have r0 := frozenc B58 (y 0 (by omega)) (e 0 (by omega)); have r1 := frozenc B58 (y 1 (by omega)) (e 1 (by omega)); have r2 := frozenc B58 (y 2 (by omega)) (e 2 (by omega)); have r3 := frozenc B58 (y 3 (by omega)) (e 3 (by omega)); have r4 := frozenc B58 (y 4 (by omega)) (e 4 (by omega)))))
      obtain ⟨W9, hW9, X0', X1', X2', X3', X4', -, -⟩ := set5 w8 (w.heap.size + 1) (.int .i64 q) (.int .i64 (-1)) (.int .i64 (fraN A (T - D - T1))) (.int .i64 (fraD A (T - D - T1))) (.int .i64 Y) _ _ _ _ _ z0 z1 z2 z3 z4
      have BF := ((((((BZ.tr B58).setCell (p := ⟨w.heap.size + 1, 0, none⟩) (Nat.le_succ _) (.int .i64 q)).setCell (p := ⟨w.heap.size + 1, 1, none⟩) (Nat.le_succ _) (.int .i64 (-1))).setCell (p := ⟨w.heap.size + 1, 2, none⟩) (Nat.le_succ _) (.int .i64 (fraN A (T - D - T1)))).setCell (p := ⟨w.heap.size + 1, 3, none⟩) (Nat.le_succ _) (.int .i64 (fraD A (T - D - T1)))).setCell (p := ⟨w.heap.size + 1, 4, none⟩) (Nat.le_succ _) (.int .i64 Y))
      rw [← hW9] at BF
      rw [← hW9]
      clear hW9
      go_wp2
      exact bodyPost_ret (v := .agg #[.int .i64 q, .int .i64 (-1), .int .i64 (fraN A (T - D - T1)), .int .i64 (fraD A (T - D - T1)), .int .i64 Y]) (by simp [results, Try.results118, go_sem, X0', X1', X2', X3', X4']) rfl ⟨by rw [HX.out]; rfl, by first | exact BF | exact BF.drew⟩
    · obtain ⟨W5, hW5, G0, G1, G2, G3, -, -⟩ := set4 w4 w3.heap.size (.int .i64 X1) (.int .i64 X2) (.int .i64 T1) (.int .i64 (T - D)) _ _ _ _ o0 o1 o2 o3
      have B15 : Below W1.heap.size W1 W5 := by rw [hW5]; exact ((((hb3'.tr (((Below.refl _ _).al _).tr hb4)).setCell (p := ⟨w3.heap.size, 0, none⟩) hz3 _).setCell (p := ⟨w3.heap.size, 1, none⟩) hz3 _).setCell (p := ⟨w3.heap.size, 2, none⟩) hz3 _).setCell (p := ⟨w3.heap.size, 3, none⟩) hz3 _
      rw [← hW5]
      clear hW5
      have ne5 : ¬ w3.heap.size = w.heap.size + 1 := by omega
      have ne6 : ¬ w.heap.size + 1 = w3.heap.size := by omega
      have y := fun i hi => keepc B15 (kf i hi)
      have e := fun i hi => frozenc B15 (kf i hi) (ff i hi)
      have BZ : Below w.heap.size w W5 := B1.tr B15
      have hL : 0 < T - D - T1 ∧ T - D - T1 ≤ 1000000000000 := by omega
      have hAb : -1000000000000 ≤ A ∧ A ≤ 1000000000000 := by omega
      have hT1b : T1.natAbs ≤ 100000 := by omega
      have hT2b : (T - D).natAbs ≤ 100000 := by omega
      go_wp2_with fail
      go_region_held3 (fun w' => w'.cell? ⟨w3.heap.size, 0, none⟩ = some (.int .i64 X1) ∧ w'.cell? ⟨w3.heap.size, 1, none⟩ = some (.int .i64 X2) ∧ w'.cell? ⟨w3.heap.size, 2, none⟩ = some (.int .i64 T1) ∧ w'.cell? ⟨w3.heap.size, 3, none⟩ = some (.int .i64 (T - D)))
        (go_keep)
        (first
          | ((go_at_call 135; (with_reducible refine (c_impl_along X1 X2 T1 (T - D) t _ hfb).mono ?_); rintro e5 w5 ⟨rfl, hb5⟩; rw [HA.out]; have hb5' := below_drew hb5; have a0 := keepc hb5' G0; have a1 := keepc hb5' G1; have a2 := keepc hb5' G2; have a3 := keepc hb5' G3))
          | ((go_at_call 136; (with_reducible refine (c_impl_duration X1 X2 T1 (T - D) _ hT1b hT2b).mono ?_); rintro e6 w6 ⟨rfl, hb6⟩; have c0 := keepc hb6 a0; have c1 := keepc hb6 a1; have c2 := keepc hb6 a2; have c3 := keepc hb6 a3))
          | ((go_at_call 134; (with_reducible refine (c_impl_fraction A (T - D - T1) _ hAb hL).mono ?_); rintro e7 w7 ⟨rfl, hb7⟩; have d0 := keepc hb7 c0; have d1 := keepc hb7 c1; have d2 := keepc hb7 c2; have d3 := keepc hb7 c3))
          | ((go_at_call 137; (with_reducible refine (c_impl_height X1 X2 T1 (T - D) t _ hfb).mono ?_); rintro e8 w8 ⟨rfl, hb8⟩; rw [HY.out]; have i0 := keepc hb8 d0; have i1 := keepc hb8 d1; have i2 := keepc hb8 d2; have i3 := keepc hb8 d3; have B58 := ((hb5'.tr hb6).tr hb7).tr hb8; have z0 := keepc B58 (y 0 (by omega)); have z1 := keepc B58 (y 1 (by omega)); have z2 := keepc B58 (y 2 (by omega)); have z3 := keepc B58 (y 3 (by omega)); have z4 := keepc B58 (y 4 (by omega)); have r0 := frozenc B58 (y 0 (by omega)) (e 0 (by omega)); have r1 := frozenc B58 (y 1 (by omega)) (e 1 (by omega)); have r2 := frozenc B58 (y 2 (by omega)) (e 2 (by omega)); have r3 := frozenc B58 (y 3 (by omega)) (e 3 (by omega)); have r4 := frozenc B58 (y 4 (by omega)) (e 4 (by omega)))))
      obtain ⟨W9, hW9, X0', X1', X2', X3', X4', -, -⟩ := set5 w8 (w.heap.size + 1) (.int .i64 q) (.int .i64 (-1)) (.int .i64 (fraN A (T - D - T1))) (.int .i64 (fraD A (T - D - T1))) (.int .i64 Y) _ _ _ _ _ z0 z1 z2 z3 z4
      have BF := ((((((BZ.tr B58).setCell (p := ⟨w.heap.size + 1, 0, none⟩) (Nat.le_succ _) (.int .i64 q)).setCell (p := ⟨w.heap.size + 1, 1, none⟩) (Nat.le_succ _) (.int .i64 (-1))).setCell (p := ⟨w.heap.size + 1, 2, none⟩) (Nat.le_succ _) (.int .i64 (fraN A (T - D - T1)))).setCell (p := ⟨w.heap.size + 1, 3, none⟩) (Nat.le_succ _) (.int .i64 (fraD A (T - D - T1)))).setCell (p := ⟨w.heap.size + 1, 4, none⟩) (Nat.le_succ _) (.int .i64 Y))
      rw [← hW9] at BF
      rw [← hW9]
      clear hW9
      go_wp2
      exact bodyPost_ret (v := .agg #[.int .i64 q, .int .i64 (-1), .int .i64 (fraN A (T - D - T1)), .int .i64 (fraD A (T - D - T1)), .int .i64 Y]) (by simp [results, Try.results118, go_sem, X0', X1', X2', X3', X4']) rfl ⟨by rw [HX.out]; rfl, by first | exact BF | exact BF.drew⟩
    · obtain ⟨W5, hW5, G0, G1, G2, G3, -, -⟩ := set4 w4 W1.heap.size (.int .i64 X1) (.int .i64 X2) (.int .i64 T1) (.int .i64 (T - D)) _ _ _ _ o0 o1 o2 o3
      have B15 : Below W1.heap.size W1 W5 := by rw [hW5]; exact ((((hb3'.tr (hb4)).setCell (p := ⟨W1.heap.size, 0, none⟩) (Nat.le_refl _) _).setCell (p := ⟨W1.heap.size, 1, none⟩) (Nat.le_refl _) _).setCell (p := ⟨W1.heap.size, 2, none⟩) (Nat.le_refl _) _).setCell (p := ⟨W1.heap.size, 3, none⟩) (Nat.le_refl _) _
      rw [← hW5]
      clear hW5
      have ne5 : ¬ W1.heap.size = w.heap.size + 1 := by omega
      have ne6 : ¬ w.heap.size + 1 = W1.heap.size := by omega
      have y := fun i hi => keepc B15 (kf i hi)
      have e := fun i hi => frozenc B15 (kf i hi) (ff i hi)
      have BZ : Below w.heap.size w W5 := B1.tr B15
      have hL : 0 < T - D - T1 ∧ T - D - T1 ≤ 1000000000000 := by omega
      have hAb : -1000000000000 ≤ A ∧ A ≤ 1000000000000 := by omega
      have hT1b : T1.natAbs ≤ 100000 := by omega
      have hT2b : (T - D).natAbs ≤ 100000 := by omega
      go_wp2_with fail
      go_region_held3 (fun w' => w'.cell? ⟨W1.heap.size, 0, none⟩ = some (.int .i64 X1) ∧ w'.cell? ⟨W1.heap.size, 1, none⟩ = some (.int .i64 X2) ∧ w'.cell? ⟨W1.heap.size, 2, none⟩ = some (.int .i64 T1) ∧ w'.cell? ⟨W1.heap.size, 3, none⟩ = some (.int .i64 (T - D)))
        (go_keep)
        (first
          | ((go_at_call 135; (with_reducible refine (c_impl_along X1 X2 T1 (T - D) t _ hfb).mono ?_); rintro e5 w5 ⟨rfl, hb5⟩; rw [HA.out]; have hb5' := below_drew hb5; have a0 := keepc hb5' G0; have a1 := keepc hb5' G1; have a2 := keepc hb5' G2; have a3 := keepc hb5' G3))
          | ((go_at_call 136; (with_reducible refine (c_impl_duration X1 X2 T1 (T - D) _ hT1b hT2b).mono ?_); rintro e6 w6 ⟨rfl, hb6⟩; have c0 := keepc hb6 a0; have c1 := keepc hb6 a1; have c2 := keepc hb6 a2; have c3 := keepc hb6 a3))
          | ((go_at_call 134; (with_reducible refine (c_impl_fraction A (T - D - T1) _ hAb hL).mono ?_); rintro e7 w7 ⟨rfl, hb7⟩; have d0 := keepc hb7 c0; have d1 := keepc hb7 c1; have d2 := keepc hb7 c2; have d3 := keepc hb7 c3))
          | ((go_at_call 137; (with_reducible refine (c_impl_height X1 X2 T1 (T - D) t _ hfb).mono ?_); rintro e8 w8 ⟨rfl, hb8⟩; rw [HY.out]; have i0 := keepc hb8 d0; have i1 := keepc hb8 d1; have i2 := keepc hb8 d2; have i3 := keepc hb8 d3; have B58 := ((hb5'.tr hb6).tr hb7).tr hb8; have z0 := keepc B58 (y 0 (by omega)); have z1 := keepc B58 (y 1 (by omega)); have z2 := keepc B58 (y 2 (by omega)); have z3 := keepc B58 (y 3 (by omega)); have z4 := keepc B58 (y 4 (by omega)); have r0 := frozenc B58 (y 0 (by omega)) (e 0 (by omega)); have r1 := frozenc B58 (y 1 (by omega)) (e 1 (by omega)); have r2 := frozenc B58 (y 2 (by omega)) (e 2 (by omega)); have r3 := frozenc B58 (y 3 (by omega)) (e 3 (by omega)); have r4 := frozenc B58 (y 4 (by omega)) (e 4 (by omega)))))
      obtain ⟨W9, hW9, X0', X1', X2', X3', X4', -, -⟩ := set5 w8 (w.heap.size + 1) (.int .i64 q) (.int .i64 (-1)) (.int .i64 (fraN A (T - D - T1))) (.int .i64 (fraD A (T - D - T1))) (.int .i64 Y) _ _ _ _ _ z0 z1 z2 z3 z4
      have BF := ((((((BZ.tr B58).setCell (p := ⟨w.heap.size + 1, 0, none⟩) (Nat.le_succ _) (.int .i64 q)).setCell (p := ⟨w.heap.size + 1, 1, none⟩) (Nat.le_succ _) (.int .i64 (-1))).setCell (p := ⟨w.heap.size + 1, 2, none⟩) (Nat.le_succ _) (.int .i64 (fraN A (T - D - T1)))).setCell (p := ⟨w.heap.size + 1, 3, none⟩) (Nat.le_succ _) (.int .i64 (fraD A (T - D - T1)))).setCell (p := ⟨w.heap.size + 1, 4, none⟩) (Nat.le_succ _) (.int .i64 Y))
      rw [← hW9] at BF
      rw [← hW9]
      clear hW9
      go_wp2
      exact bodyPost_ret (v := .agg #[.int .i64 q, .int .i64 (-1), .int .i64 (fraN A (T - D - T1)), .int .i64 (fraD A (T - D - T1)), .int .i64 Y]) (by simp [results, Try.results118, go_sem, X0', X1', X2', X3', X4']) rfl ⟨by rw [HX.out]; rfl, by first | exact BF | exact BF.drew⟩
  · have HX := dotP_held (p := p) (x := x) q hair
    unfold heldX at HX
    rw [HT.out] at hair HX
    have hair2 : ¬ t < T - D := hair
    obtain ⟨S1, HS1⟩ : ∃ M, Hid (sideP (b % 2) x = M) := ⟨_, Lib.hid rfl⟩
    obtain ⟨S3, HS3⟩ : ∃ M, Hid (sideP (b % 2) (3 * x) = M) := ⟨_, Lib.hid rfl⟩
    rw [HS1.out, HS3.out] at HX
    have hS1 := sideP_bd (b % 2) (x := x) (M := 16) (by omega)
    have hS3 := sideP_bd (b % 2) (x := 3 * x) (M := 48) (by omega)
    rw [HS1.out] at hS1
    rw [HS3.out] at hS3
    have hfb : flB S3 S1 (T - D) T t := ⟨by omega, by omega, by omega, by omega, by omega⟩
    obtain ⟨a1, a2, a3, -⟩ := alongP_bd hfb
    have HA0 : Hid (S3 * (T - t) + S1 * (t - (T - D)) = alongP S3 S1 (T - D) T t) := rfl
    obtain ⟨A, HA⟩ : ∃ A, Hid (alongP S3 S1 (T - D) T t = A) := ⟨_, Lib.hid rfl⟩
    obtain ⟨M1, HM1⟩ : ∃ M, Hid (S3 * (T - t) = M) := ⟨_, Lib.hid rfl⟩
    obtain ⟨M2, HM2⟩ : ∃ M, Hid (S1 * (t - (T - D)) = M) := ⟨_, Lib.hid rfl⟩
    rw [HA.out] at a3 HX HA0
    rw [HM1.out] at a1
    rw [HM2.out] at a2
    rw [HM1.out, HM2.out] at HA0
    have hv1 : IntKind.i64.wrap (S3 * (T - t)) = M1 := by rw [HM1.out]; exact IntWalk.i64_in _ (by omega)
    have hv2 : IntKind.i64.wrap (S1 * (t - (T - D))) = M2 := by rw [HM2.out]; exact IntWalk.i64_in _ (by omega)
    have hbb : -100000 ≤ b ∧ b ≤ 100000 := by omega
    have hAb : -1000000000000 ≤ A ∧ A ≤ 1000000000000 := by omega
    have hDb : 0 < D ∧ D ≤ 1000000000000 := by omega
    clear hv hair hfr hfl b2 HR
    go_enter Try.func118, Try.ntmps118
    go_wp2_with fail
    rw [← hW0]
    clear hW0
    go_quiet (fail)
    go_wp2_with fail
    refine (c_impl_HandOf b _ hbb).mono ?_; rintro e w1 ⟨rfl, rfl⟩
    go_wp2_with fail
    refine (c_impl_side _ (3 * x) _ hxb2).mono ?_; rintro e w1 ⟨rfl, rfl⟩
    rw [HS3.out]
    go_wp2_with fail
    refine (c_impl_side _ x _ hxb).mono ?_; rintro e w1 ⟨rfl, rfl⟩
    rw [HS1.out]
    go_wp2_with fail
    obtain ⟨W1, hW1⟩ : ∃ W1, W0.drewN nq = W1 := ⟨_, rfl⟩
    have B1 : Below w.heap.size w W1 := by rw [← hW1]; exact B0.drN nq
    have kf : ∀ i, i < 5 → W1.cell? ⟨w.heap.size + 1, i, none⟩ = some (.int .i64 0) := by rw [← hW1]; exact kf
    have ff : ∀ i, i < 5 → W1.frozen? ⟨w.heap.size + 1, i, none⟩ = false := by rw [← hW1]; exact ff
    rw [HA0.out]
    try rw [hW1]
    clear hW1
    refine (c_impl_fraction A D _ hAb hDb).mono ?_; rintro e w8 ⟨rfl, hb8⟩
    have z0 := keepc hb8 (kf 0 (by omega))
    have z1 := keepc hb8 (kf 1 (by omega))
    have z2 := keepc hb8 (kf 2 (by omega))
    have z3 := keepc hb8 (kf 3 (by omega))
    have z4 := keepc hb8 (kf 4 (by omega))
    have r0 := frozenc hb8 (kf 0 (by omega)) (ff 0 (by omega))
    have r1 := frozenc hb8 (kf 1 (by omega)) (ff 1 (by omega))
    have r2 := frozenc hb8 (kf 2 (by omega)) (ff 2 (by omega))
    have r3 := frozenc hb8 (kf 3 (by omega)) (ff 3 (by omega))
    have r4 := frozenc hb8 (kf 4 (by omega)) (ff 4 (by omega))
    obtain ⟨W9, hW9, X0', X1', X2', X3', X4', -, -⟩ := set5 w8 (w.heap.size + 1) (.int .i64 q) (.int .i64 (b % 2)) (.int .i64 (fraN A D)) (.int .i64 (fraD A D)) (.int .i64 0) _ _ _ _ _ z0 z1 z2 z3 z4
    have BF := ((((((B1.tr hb8).setCell (p := ⟨w.heap.size + 1, 0, none⟩) (Nat.le_succ _) (.int .i64 q)).setCell (p := ⟨w.heap.size + 1, 1, none⟩) (Nat.le_succ _) (.int .i64 (b % 2))).setCell (p := ⟨w.heap.size + 1, 2, none⟩) (Nat.le_succ _) (.int .i64 (fraN A D))).setCell (p := ⟨w.heap.size + 1, 3, none⟩) (Nat.le_succ _) (.int .i64 (fraD A D))).setCell (p := ⟨w.heap.size + 1, 4, none⟩) (Nat.le_succ _) (.int .i64 0))
    rw [← hW9] at BF
    go_wp2
    rw [← hW9]
    clear hW9
    exact bodyPost_ret (v := .agg #[.int .i64 q, .int .i64 (b % 2), .int .i64 (fraN A D), .int .i64 (fraD A D), .int .i64 0]) (by simp [results, Try.results118, go_sem, X0', X1', X2', X3', X4']) rfl ⟨by rw [HX.out]; rfl, by first | exact BF | exact BF.drew⟩
end Go.Proofs.Ytpcaaohdlcoplaa
end
