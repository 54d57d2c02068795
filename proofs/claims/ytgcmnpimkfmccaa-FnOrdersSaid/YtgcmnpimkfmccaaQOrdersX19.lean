/- The law OrdersX: what it rests on, part 19 of 48. -/
import Derived.Test.YtgcmnpimkfmccaaQOrdersX18
section
namespace Go.Proofs.Ytgcmnpimkfmccaa
open Go.ChangeShapes Go.WideShapes Go.ChangeAt Go.RowKit
set_option linter.unusedVariables false
set_option linter.unusedSimpArgs false
def fitB (a b : List Int) (h : Int) : Bool := !decide (mxF 0 a > h) && !decide (mxF 0 b > h) && propsP a == propsP b
def brC (a b : List Int) (h : Int) : Int := bif validP a && validP b then (bif inB h 1 10 then (bif fitB a b h then 0 else 6) else 2) else 1
theorem brC_ok {a b : List Int} {h : Int} (hc : brC a b h = 0) : (validP a = true ∧ validP b = true) ∧ (1 ≤ h ∧ h ≤ 10) ∧ ((∀ x ∈ a, x ≤ h) ∧ ∀ x ∈ b, x ≤ h) ∧ propsP a = propsP b := by
  unfold brC at hc
  cases h1 : validP a <;> cases h2 : validP b <;> rw [h1, h2] at hc <;> simp at hc
  cases h3 : inB h 1 10
  · rw [h3] at hc; simp at hc
  · rw [h3] at hc
    cases h4 : fitB a b h
    · rw [h4] at hc; simp at hc
    · unfold fitB at h4
      rw [Bool.and_eq_true, Bool.and_eq_true] at h4
      obtain ⟨⟨k1, k2⟩, k3⟩ := h4
      have k1 : ¬ mxF 0 a > h := by simpa using k1
      have k2 : ¬ mxF 0 b > h := by simpa using k2
      refine ⟨⟨rfl, rfl⟩, inB_iff.1 h3, ⟨fun x hx => ?_, fun x hx => ?_⟩, by simpa using k3⟩
      · have := (mxF_ge 0 a).2.1 x hx; omega
      · have := (mxF_ge 0 b).2.1 x hx; omega
theorem brC_cases (a b : List Int) (h : Int) : (validP a = false ∧ brC a b h = 1) ∨ (validP a = true ∧ validP b = false ∧ brC a b h = 1) ∨ (validP a = true ∧ validP b = true ∧ inB h 1 10 = false ∧ brC a b h = 2) ∨
    (validP a = true ∧ validP b = true ∧ inB h 1 10 = true ∧ mxF 0 a > h ∧ brC a b h = 6) ∨ (validP a = true ∧ validP b = true ∧ inB h 1 10 = true ∧ ¬ mxF 0 a > h ∧ mxF 0 b > h ∧ brC a b h = 6) ∨
    (validP a = true ∧ validP b = true ∧ inB h 1 10 = true ∧ ¬ mxF 0 a > h ∧ ¬ mxF 0 b > h ∧ (propsP a != propsP b) = true ∧ brC a b h = 6) ∨
    (validP a = true ∧ validP b = true ∧ inB h 1 10 = true ∧ ¬ mxF 0 a > h ∧ ¬ mxF 0 b > h ∧ (propsP a != propsP b) = false ∧ brC a b h = 0) := by
  unfold brC fitB
  cases h1 : validP a
  · left; exact ⟨rfl, rfl⟩
  · right
    cases h2 : validP b
    · left; exact ⟨rfl, rfl, rfl⟩
    · right
      cases h3 : inB h 1 10
      · left; exact ⟨rfl, rfl, rfl, rfl⟩
      · right
        by_cases h4 : mxF 0 a > h
        · left; exact ⟨rfl, rfl, rfl, h4, by simp [h4]⟩
        · right
          by_cases h5 : mxF 0 b > h
          · left; exact ⟨rfl, rfl, rfl, h4, h5, by simp [h4, h5]⟩
          · right
            cases h6 : (propsP a == propsP b)
            · left; exact ⟨rfl, rfl, rfl, h4, h5, by rw [bne, h6]; rfl, by simp [h4, h5]⟩
            · right; exact ⟨rfl, rfl, rfl, h4, h5, by rw [bne, h6]; rfl, by simp [h4, h5]⟩
end Go.Proofs.Ytgcmnpimkfmccaa
end
section
namespace Go.Proofs.Ytgcmnpimkfmccaa
open Go.ChangeShapes Go.WideShapes Go.ChangeAt Go.RowKit
set_option linter.unusedVariables false
set_option linter.unusedSimpArgs false
set_option maxHeartbeats 1000000 in
set_option maxRecDepth 100000 in
theorem c_spec_l08Code (a : List Int) (h : Int) (v : Value) (w : World) (hr : RdI w v a) :
    Calls Try.prog 76 #[v, .int .i64 0, .int .i64 h] w fun e w' => e = .returned (.int .i64 (brC a a h)) ∧ Below w.heap.size w w' := by
  have HR1 := Lib.hid hr
  have h0 : inB 0 (-1000) 1000 = true := by decide
  clear hr
  rcases brC_cases a a h with ⟨h1, hc⟩ | ⟨h1, h2, hc⟩ | ⟨h1, h2, h3, hc⟩ | ⟨h1, h2, h3, h4, hc⟩ | ⟨h1, h2, h3, h4, h5, hc⟩ | ⟨h1, h2, h3, h4, h5, h6, hc⟩ | ⟨h1, h2, h3, h4, h5, h6, hc⟩
  · have HC := Lib.hid hc
    go_enter Try.func76, Try.ntmps76
    go_wp2_with fail
    refine (c_spec_l02Ok a _ _ HR1.out).mono ?_; rintro e w1 ⟨rfl, hb1⟩
    rw [h1]
    go_wp2
    go_ret
    exact ⟨by rw [HC.out]; rfl, hb1⟩
  · rw [h1] at h2; cases h2
  · have HC := Lib.hid hc
    go_enter Try.func76, Try.ntmps76
    go_wp2_with fail
    refine (c_spec_l02Ok a _ _ HR1.out).mono ?_; rintro e w1 ⟨rfl, hb1⟩
    rw [h1]
    clear h1 h2
    go_wp2_with fail
    refine (c_spec_l00In _ _ _ _).mono ?_; rintro e w2 ⟨rfl, rfl⟩; rw [h0]
    go_wp2_with fail
    refine (c_spec_l08Height h _).mono ?_; rintro e w3 ⟨rfl, rfl⟩; rw [h3]
    go_wp2
    go_ret
    exact ⟨by rw [HC.out]; rfl, hb1⟩
  · have HC := Lib.hid hc
    go_enter Try.func76, Try.ntmps76
    go_wp2_with fail
    refine (c_spec_l02Ok a _ _ HR1.out).mono ?_; rintro e w1 ⟨rfl, hb1⟩
    rw [h1]
    clear h1 h2
    go_wp2_with fail
    refine (c_spec_l00In _ _ _ _).mono ?_; rintro e w2 ⟨rfl, rfl⟩; rw [h0]
    go_wp2_with fail
    refine (c_spec_l08Height h _).mono ?_; rintro e w3 ⟨rfl, rfl⟩; rw [h3]
    go_wp2_with fail
    refine (c_spec_l02High a _ _ (HR1.out.below hb1)).mono ?_; rintro e w3 ⟨rfl, rfl⟩
    go_wp2
    go_ret
    exact ⟨by rw [HC.out]; rfl, hb1⟩
  · exact absurd h5 h4
  · simp at h6
  · have HC := Lib.hid hc
    go_enter Try.func76, Try.ntmps76
    go_wp2_with fail
    refine (c_spec_l02Ok a _ _ HR1.out).mono ?_; rintro e w1 ⟨rfl, hb1⟩
    rw [h1]
    clear h1 h2
    go_wp2_with fail
    refine (c_spec_l00In _ _ _ _).mono ?_; rintro e w2 ⟨rfl, rfl⟩; rw [h0]
    go_wp2_with fail
    refine (c_spec_l08Height h _).mono ?_; rintro e w3 ⟨rfl, rfl⟩; rw [h3]
    go_wp2_with fail
    refine (c_spec_l02High a _ _ (HR1.out.below hb1)).mono ?_; rintro e w3 ⟨rfl, rfl⟩
    go_wp2
    go_ret
    exact ⟨by rw [HC.out]; rfl, hb1⟩
theorem c_impl_ground (p : List Int) (h : Int) (v : Value) (w : World) (hr : RdI w v p) (hv : validP p = true) (hn : 0 ≤ propsP p ∧ propsP p ≤ 10) :
    Calls Try.prog 73 #[v, .int .i64 h] w fun e w' => e = .returned (.agg #[.int .i64 h, .int .i64 (groundI (propsP p))]) ∧ Below w.heap.size w w' := by
  have HG : Hid (groundI (propsP p) = 2 ^ (propsP p).toNat - 1) := rfl
  have hp1 := pow_le_1024 (propsP p).toNat (by omega)
  have hp2 := pow_pos_int (propsP p).toNat
  have HR := Lib.hid (hr.below ((Below.refl _ _).al (Obj.cells #[Value.int IntKind.i64 0, Value.int IntKind.i64 0] 63)))
  have HV := Lib.hid hv
  clear hv hr
  generalize hN : propsP p = N at *
  go_enter Try.func73, Try.ntmps73
  go_wp2_with (go_at_call 49; refine (c_impl_propsOf p _ _ HR.out HV.out).mono ?_; rintro e w2 ⟨rfl, rfl⟩; rw [hN])
  refine bodyPost_ret (v := .agg #[.int .i64 h, .int .i64 (2 ^ N.toNat - 1)]) (by simp [results, Try.results73, go_sem]) rfl ⟨by rw [HG.out], by (repeat (first | (with_reducible assumption) | (with_reducible exact Below.refl _ _) | (with_reducible refine Below.setCell ?_ (by first | (simp; done) | (simp; omega)) _) | (with_reducible refine Below.al ?_ _) | (with_reducible refine Below.dr ?_) | (with_reducible refine Below.drN ?_ _) | (with_reducible refine Below.tr ?_ (by with_reducible assumption))))⟩
theorem c_spec_l08Ground (n : Int) (w : World) (hn : 0 ≤ n ∧ n ≤ 10) :
    Calls Try.prog 111 #[.int .i64 n] w fun e w' => e = .returned (.int .i64 (groundI n)) ∧ w = w' := by
  have HG : Hid (groundI n = 2 ^ n.toNat - 1) := rfl
  have hp1 := pow_le_1024 n.toNat (by omega)
  have hp2 := pow_pos_int n.toNat
  go_enter Try.func111, Try.ntmps111
  go_wp2
  go_ret
  exact ⟨by rw [HG.out]; rfl, rfl⟩
set_option maxHeartbeats 1000000 in
set_option maxRecDepth 100000 in
theorem c_spec_l10Ground (h m : Int) (w : World) (hm : 0 ≤ m ∧ m < 1024) :
    Calls Try.prog 79 #[.agg #[.int .i64 h, .int .i64 m]] w fun e w' => e = .returned (.agg #[.int .i64 h, .int .i64 (groundI (popI m))]) ∧ Below w.heap.size w w' := by
  have hpb := popTo_bd m 10
  have hpi : 0 ≤ popI m ∧ popI m ≤ 10 := by unfold popI; omega
  obtain ⟨W0, hW0⟩ : ∃ W0, W0 = (w.alloc (Obj.cells #[Value.int IntKind.i64 h, Value.int IntKind.i64 m] 63)).alloc (Obj.cells #[Value.int IntKind.i64 0, Value.int IntKind.i64 0] 63) := ⟨_, rfl⟩
  have k0 : W0.cell? ⟨w.heap.size, 0, none⟩ = some (.int .i64 h) := by rw [hW0]; go_simp
  have k1 : W0.cell? ⟨w.heap.size, 1, none⟩ = some (.int .i64 m) := by rw [hW0]; go_simp
  have k2 : W0.cell? ⟨w.heap.size + 1, 0, none⟩ = some (.int .i64 0) := by rw [hW0]; go_simp
  have k3 : W0.cell? ⟨w.heap.size + 1, 1, none⟩ = some (.int .i64 0) := by rw [hW0]; go_simp
  have f2 : W0.frozen? ⟨w.heap.size + 1, 0, none⟩ = false := by rw [hW0]; go_simp
  have f3 : W0.frozen? ⟨w.heap.size + 1, 1, none⟩ = false := by rw [hW0]; go_simp
  have B0 : Below w.heap.size w W0 := by rw [hW0]; (repeat (first | (with_reducible assumption) | (with_reducible exact Below.refl _ _) | (with_reducible refine Below.setCell ?_ (by first | (simp; done) | (simp; omega)) _) | (with_reducible refine Below.al ?_ _) | (with_reducible refine Below.dr ?_) | (with_reducible refine Below.drN ?_ _) | (with_reducible refine Below.tr ?_ (by with_reducible assumption))))
  have hne : ¬ w.heap.size = w.heap.size + 1 := by omega
  have hne2 : ¬ w.heap.size + 1 = w.heap.size := by omega
  go_enter Try.func79, Try.ntmps79
  go_wp2_with fail
  rw [← hW0]
  clear hW0
  go_region_held3 (fun w' => w'.cell? ⟨w.heap.size, 0, none⟩ = some (.int .i64 h) ∧ w'.cell? ⟨w.heap.size, 1, none⟩ = some (.int .i64 m))
    (go_keep)
    (first
      | ((go_at_call 105; refine (c_spec_l08Count m _ hm).mono ?_; rintro e w2 ⟨rfl, rfl⟩))
      | ((go_at_call 111; refine (c_spec_l08Ground (popI m) _ hpi).mono ?_; rintro e w3 ⟨rfl, rfl⟩)))
  obtain ⟨X0, X1, -, hg⟩ := set2 W0 (w.heap.size + 1) (.int .i64 h) (.int .i64 (groundI (popI m))) _ _ k2 k3
  have BZ := (B0.setCell (p := ⟨w.heap.size + 1, 0, none⟩) (Nat.le_succ _) (.int .i64 h)).setCell (p := ⟨w.heap.size + 1, 1, none⟩) (Nat.le_succ _) (.int .i64 (groundI (popI m)))
  generalize ((W0.setCell ⟨w.heap.size + 1, 0, none⟩ (.int .i64 h)).setCell ⟨w.heap.size + 1, 1, none⟩ (.int .i64 (groundI (popI m)))) = wz at *
  go_wp2
  refine bodyPost_ret (v := .agg #[.int .i64 h, .int .i64 (groundI (popI m))]) (by simp [results, Try.results79, go_sem, X0, X1]) rfl ⟨rfl, by first | exact BZ | exact BZ.drew⟩
end Go.Proofs.Ytgcmnpimkfmccaa
end
