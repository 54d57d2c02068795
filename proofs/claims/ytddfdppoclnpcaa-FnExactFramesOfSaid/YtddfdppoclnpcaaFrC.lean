/- Contracts: the flight of a throw. -/
import Derived.Test.YtddfdppoclnpcaaFrB
namespace Go.Proofs.Ytddfdppoclnpcaa
open Go.ChangeShapes Go.WideShapes Go.ChangeAt Go.RowKit
set_option linter.unusedVariables false
set_option linter.unusedSimpArgs false
theorem boxTF (w : World) (a b : Int) : ∃ W0, W0 = (w.alloc (Obj.cells #[Value.int IntKind.i64 a, Value.int IntKind.i64 b] 54)).alloc (Obj.cells #[Value.int IntKind.i64 0, Value.int IntKind.i64 0, Value.int IntKind.i64 0, Value.int IntKind.i64 0] 117) ∧
    W0.cell? ⟨w.heap.size, 0, none⟩ = some (.int .i64 a) ∧ W0.cell? ⟨w.heap.size, 1, none⟩ = some (.int .i64 b) ∧
    (∀ i, i < 4 → W0.cell? ⟨w.heap.size + 1, i, none⟩ = some (.int .i64 0)) ∧ (∀ i, i < 4 → W0.frozen? ⟨w.heap.size + 1, i, none⟩ = false) ∧ Below w.heap.size w W0 := by
  refine ⟨_, rfl, ?_, ?_, ?_, ?_, ((Below.refl _ _).al _).al _⟩
  · go_simp
  · go_simp
  · intro i hi
    have : i = 0 ∨ i = 1 ∨ i = 2 ∨ i = 3 := by omega
    rcases this with rfl | rfl | rfl | rfl <;> go_simp
  · intro i hi
    have : i = 0 ∨ i = 1 ∨ i = 2 ∨ i = 3 := by omega
    rcases this with rfl | rfl | rfl | rfl <;> go_simp
set_option maxHeartbeats 4000000 in
set_option maxRecDepth 100000 in
theorem c_impl_flightOf (p : List Int) (B D x c : Int) (v : Value) (w : World) (hr : RdI w v p) (hv : validP p = true) (hB : 2 ≤ B ∧ B ≤ 30) (hD : 1 ≤ D ∧ D ≤ 60) (hx : 0 ≤ x ∧ x ≤ 16) (hc : -100 ≤ c ∧ c ≤ 3200) :
    Calls Try.prog 140 #[v, .agg #[.int .i64 B, .int .i64 D], .int .i64 x, .int .i64 c] w fun e w' => e = .returned (.agg #[.int .i64 (sideP (c % 2) x), .int .i64 (sideP ((c + atP p c) % 2) (3 * x)), .int .i64 (c * B), .int .i64 ((c + atP p c) * B - D)]) ∧ Below w.heap.size w w' := by
  obtain ⟨W0, hW0, k0, k1, kf, ff, B0⟩ := boxTF w B D
  have hln := (validP_iff.1 hv).1.2
  have hab := at_bd hv c
  have HR : Hid (RdI W0 v p) := Lib.hid (hr.below B0)
  have b1 := bt_bd (b := c) (M := 3200) (by omega) hB
  have b2 := bt_bd (b := c + atP p c) (M := 3300) (by omega) hB
  obtain ⟨a, HA⟩ : ∃ a, Hid (atP p c = a) := ⟨_, Lib.hid rfl⟩
  rw [HA.out] at hab b2
  obtain ⟨T1, HT1⟩ : ∃ M, Hid (c * B = M) := ⟨_, Lib.hid rfl⟩
  obtain ⟨T2, HT2⟩ : ∃ M, Hid ((c + a) * B = M) := ⟨_, Lib.hid rfl⟩
  rw [HT1.out] at b1
  rw [HT2.out] at b2
  have hw1 : IntKind.i64.wrap (c * B) = T1 := by rw [HT1.out]; exact IntWalk.i64_in _ (by omega)
  have hw2 : IntKind.i64.wrap ((c + a) * B) = T2 := by rw [HT2.out]; exact IntWalk.i64_in _ (by omega)
  rw [HA.out, HT1.out, HT2.out]
  clear hv hr
  go_enter Try.func140, Try.ntmps140
  go_wp2_with fail
  rw [← hW0]
  clear hW0
  refine (c_impl_throwAt p c _ _ HR.out hln (by omega)).mono ?_; rintro e w2 ⟨rfl, rfl⟩
  rw [HA.out]
  go_wp2_with fail
  have x0 := kf 0 (by omega)
  have x1 := kf 1 (by omega)
  have x2 := kf 2 (by omega)
  have x3 := kf 3 (by omega)
  have f0 := ff 0 (by omega)
  have f1 := ff 1 (by omega)
  have f2 := ff 2 (by omega)
  have f3 := ff 3 (by omega)
  clear kf ff
  have hne : ¬ w.heap.size = w.heap.size + 1 := by omega
  have hne2 : ¬ w.heap.size + 1 = w.heap.size := by omega
  have hcb : -100000 ≤ c ∧ c ≤ 100000 := by omega
  have hcb2 : -100000 ≤ c + a ∧ c + a ≤ 100000 := by omega
  have hxb : -10000 ≤ x ∧ x ≤ 10000 := by omega
  have hxb2 : -10000 ≤ 3 * x ∧ 3 * x ≤ 10000 := by omega
  have hw3 : IntKind.i64.wrap (3 * x) = 3 * x := IntWalk.i64_in _ (by omega)
  have hw4 : IntKind.i64.wrap (T2 - D) = T2 - D := IntWalk.i64_in _ (by omega)
  go_region_held3 (fun w' => w'.cell? ⟨w.heap.size, 0, none⟩ = some (.int .i64 B) ∧ w'.cell? ⟨w.heap.size, 1, none⟩ = some (.int .i64 D))
    (go_keep)
    (first
      | ((go_at_call 81; (with_reducible refine (c_impl_HandOf c _ hcb).mono ?_); rintro e w1 ⟨rfl, rfl⟩))
      | ((go_at_call 145; (with_reducible refine (c_impl_side _ x _ hxb).mono ?_); rintro e w1 ⟨rfl, rfl⟩))
      | ((go_at_call 81; (with_reducible refine (c_impl_HandOf (c + a) _ hcb2).mono ?_); rintro e w1 ⟨rfl, rfl⟩))
      | ((go_at_call 145; (with_reducible refine (c_impl_side _ (3 * x) _ hxb2).mono ?_); rintro e w1 ⟨rfl, rfl⟩)))
  obtain ⟨W4, hW4, X0, X1, X2, X3, -, -⟩ := set4 W0 (w.heap.size + 1) (.int .i64 (sideP (c % 2) x)) (.int .i64 (sideP ((c + a) % 2) (3 * x))) (.int .i64 T1) (.int .i64 (T2 - D)) _ _ _ _ x0 x1 x2 x3
  have BZ := (((B0.setCell (p := ⟨w.heap.size + 1, 0, none⟩) (Nat.le_succ _) (.int .i64 (sideP (c % 2) x))).setCell (p := ⟨w.heap.size + 1, 1, none⟩) (Nat.le_succ _) (.int .i64 (sideP ((c + a) % 2) (3 * x)))).setCell (p := ⟨w.heap.size + 1, 2, none⟩) (Nat.le_succ _) (.int .i64 T1)).setCell (p := ⟨w.heap.size + 1, 3, none⟩) (Nat.le_succ _) (.int .i64 (T2 - D))
  rw [← hW4] at BZ
  rw [← hW4]
  clear hW4
  go_wp2
  exact bodyPost_ret (v := .agg #[.int .i64 (sideP (c % 2) x), .int .i64 (sideP ((c + a) % 2) (3 * x)), .int .i64 T1, .int .i64 (T2 - D)]) (by simp [results, Try.results140, go_sem, X0, X1, X2, X3]) rfl ⟨rfl, by first | exact BZ | exact BZ.drew⟩
set_option maxHeartbeats 4000000 in
set_option maxRecDepth 100000 in
theorem c_spec_l16Of (p : List Int) (B D x c : Int) (v : Value) (w : World) (hr : RdI w v p) (hv : validP p = true) (hB : 2 ≤ B ∧ B ≤ 30) (hD : 1 ≤ D ∧ D ≤ 60) (hx : 0 ≤ x ∧ x ≤ 16) (hc : -100 ≤ c ∧ c ≤ 3200) :
    Calls Try.prog 104 #[v, .agg #[.int .i64 B, .int .i64 D], .int .i64 x, .int .i64 c] w fun e w' => e = .returned (.agg #[.int .i64 (sideP (c % 2) x), .int .i64 (sideP ((c + atP p c) % 2) (3 * x)), .int .i64 (c * B), .int .i64 ((c + atP p c) * B - D)]) ∧ Below w.heap.size w w' := by
  obtain ⟨W0, hW0, k0, k1, kf, ff, B0⟩ := boxTF w B D
  have hln := (validP_iff.1 hv).1.2
  have hab := at_bd hv c
  have HR : Hid (RdI W0 v p) := Lib.hid (hr.below B0)
  have b1 := bt_bd (b := c) (M := 3200) (by omega) hB
  have b2 := bt_bd (b := c + atP p c) (M := 3300) (by omega) hB
  obtain ⟨a, HA⟩ : ∃ a, Hid (atP p c = a) := ⟨_, Lib.hid rfl⟩
  rw [HA.out] at hab b2
  obtain ⟨T1, HT1⟩ : ∃ M, Hid (c * B = M) := ⟨_, Lib.hid rfl⟩
  obtain ⟨T2, HT2⟩ : ∃ M, Hid ((c + a) * B = M) := ⟨_, Lib.hid rfl⟩
  rw [HT1.out] at b1
  rw [HT2.out] at b2
  have hw1 : IntKind.i64.wrap (c * B) = T1 := by rw [HT1.out]; exact IntWalk.i64_in _ (by omega)
  have hw2 : IntKind.i64.wrap ((c + a) * B) = T2 := by rw [HT2.out]; exact IntWalk.i64_in _ (by omega)
  rw [HA.out, HT1.out, HT2.out]
  clear hv hr
  go_enter Try.func104, Try.ntmps104
  go_wp2_with fail
  rw [← hW0]
  clear hW0
  have HA2 : Hid (p.getD (c % (p.length : Int)).toNat 0 = a) := HA
  refine (c_spec_l02At p c _ _ HR.out hln (by omega)).mono ?_; rintro e w2 ⟨rfl, rfl⟩
  rw [HA2.out]
  go_wp2_with fail
  have x0 := kf 0 (by omega)
  have x1 := kf 1 (by omega)
  have x2 := kf 2 (by omega)
  have x3 := kf 3 (by omega)
  have f0 := ff 0 (by omega)
  have f1 := ff 1 (by omega)
  have f2 := ff 2 (by omega)
  have f3 := ff 3 (by omega)
  clear kf ff
  have hne : ¬ w.heap.size = w.heap.size + 1 := by omega
  have hne2 : ¬ w.heap.size + 1 = w.heap.size := by omega
  have hcb : -100000 ≤ c ∧ c ≤ 100000 := by omega
  have hcb2 : -100000 ≤ c + a ∧ c + a ≤ 100000 := by omega
  have hxb : -10000 ≤ x ∧ x ≤ 10000 := by omega
  have hxb2 : -10000 ≤ 3 * x ∧ 3 * x ≤ 10000 := by omega
  have hw3 : IntKind.i64.wrap (3 * x) = 3 * x := IntWalk.i64_in _ (by omega)
  have hw4 : IntKind.i64.wrap (T2 - D) = T2 - D := IntWalk.i64_in _ (by omega)
  have H1x : Hid (1 * x = x) := by unfold Hid; omega
  have hw5 : IntKind.i64.wrap (c + a) = c + a := IntWalk.i64_in _ (by omega)
  go_region_held3 (fun w' => w'.cell? ⟨w.heap.size, 0, none⟩ = some (.int .i64 B) ∧ w'.cell? ⟨w.heap.size, 1, none⟩ = some (.int .i64 D))
    (go_keep)
    (first
      | ((go_at_call 135; (with_reducible refine (c_spec_l16Hand c x 1 _ hcb hx (Or.inl rfl)).mono ?_); rintro e w1 ⟨rfl, rfl⟩; rw [H1x.out]))
      | ((go_at_call 135; (with_reducible refine (c_spec_l16Hand (c + a) x 3 _ hcb2 hx (Or.inr rfl)).mono ?_); rintro e w1 ⟨rfl, rfl⟩)))
  obtain ⟨W4, hW4, X0, X1, X2, X3, -, -⟩ := set4 W0 (w.heap.size + 1) (.int .i64 (sideP (c % 2) x)) (.int .i64 (sideP ((c + a) % 2) (3 * x))) (.int .i64 T1) (.int .i64 (T2 - D)) _ _ _ _ x0 x1 x2 x3
  have BZ := (((B0.setCell (p := ⟨w.heap.size + 1, 0, none⟩) (Nat.le_succ _) (.int .i64 (sideP (c % 2) x))).setCell (p := ⟨w.heap.size + 1, 1, none⟩) (Nat.le_succ _) (.int .i64 (sideP ((c + a) % 2) (3 * x)))).setCell (p := ⟨w.heap.size + 1, 2, none⟩) (Nat.le_succ _) (.int .i64 T1)).setCell (p := ⟨w.heap.size + 1, 3, none⟩) (Nat.le_succ _) (.int .i64 (T2 - D))
  rw [← hW4] at BZ
  rw [← hW4]
  clear hW4
  go_wp2
  exact bodyPost_ret (v := .agg #[.int .i64 (sideP (c % 2) x), .int .i64 (sideP ((c + a) % 2) (3 * x)), .int .i64 T1, .int .i64 (T2 - D)]) (by simp [results, Try.results104, go_sem, X0, X1, X2, X3]) rfl ⟨rfl, by first | exact BZ | exact BZ.drew⟩
end Go.Proofs.Ytddfdppoclnpcaa
