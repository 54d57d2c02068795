/- FrM, FrN, FrO: laid one behind the other. -/
import Derived.Test.YtpcaaohdlcoplaaFrF
import Derived.Test.YtpcaaohdlcoplaaFrK
section
set_option linter.unusedVariables false
namespace Go.Proofs.Ytpcaaohdlcoplaa
open Go.ChangeShapes Go.WideShapes Go.ChangeAt Go.RowKit
set_option linter.unusedSimpArgs false
theorem frCode_ok {p : List Int} {B D x t : Int} (h : frCode p B D x t = 0) : validP p = true ∧ validT B D = true ∧ (0 ≤ x ∧ x ≤ 16) ∧ (0 ≤ t ∧ t ≤ 3000) := by
  unfold frCode at h
  split at h
  · rename_i h0; exact absurd h h0
  · rename_i h0
    have h1 : fCode p B D x = 0 := by omega
    split at h
    · omega
    · rename_i h2
      unfold fCode at h1
      split at h1
      · omega
      · rename_i h3
        split at h1
        · omega
        · rename_i h4
          refine ⟨by simpa using h3, ?_, ?_, inB_iff.1 (by simpa using h2)⟩
          · cases h5 : validT B D
            · exact absurd (Or.inl h5) h4
            · rfl
          · apply inB_iff.1
            cases h5 : inB x 0 16
            · exact absurd (Or.inr h5) h4
            · rfl
theorem frCode_bd (p : List Int) (B D x t : Int) : 0 ≤ frCode p B D x t ∧ frCode p B D x t ≤ 6 := by
  have h : 0 ≤ fCode p B D x ∧ fCode p B D x ≤ 6 := by
    unfold fCode
    split
    · omega
    · split
      · omega
      · split <;> omega
  unfold frCode
  split
  · exact h
  · split <;> omega
def zDot : Dot5 := (0, 0, 0, 0, 0)
def dotOfP (p : List Int) (B D x q t : Int) : Dot5 := if frCode p B D x t ≠ 0 then zDot else if inB q 0 (propsP p - 1) = false then zDot else (dotsF p B D x t).getD q.toNat zDot
def dotOfC (p : List Int) (B D x q t : Int) : Int := if frCode p B D x t ≠ 0 then frCode p B D x t else if inB q 0 (propsP p - 1) = false then 2 else 0
theorem fldF (t : Int) (a : Option Addr) (n c : Nat) (w : World) : (Instr.field 64 (.agg #[.int .i64 t, .slice a n c]) 1).run Try.prog w = .ok (.slice a n c) w := by kernel_rfl
set_option maxHeartbeats 4000000 in
set_option maxRecDepth 100000 in
theorem c_impl_DotOf (p : List Int) (B D x q t : Int) (v : Value) (w : World) (hr : RdI w v p) :
    Calls Try.prog 41 #[v, .agg #[.int .i64 B, .int .i64 D], .int .i64 x, .int .i64 q, .int .i64 t] w fun e w' => e = .returned (.tuple #[aggDot (dotOfP p B D x q t), .int .i64 (dotOfC p B D x q t)]) ∧ Below w.heap.size w w' := by
  obtain ⟨W0, hW0, k0, k1, kf, ff, B0⟩ := boxTD w B D
  have HR : Hid (RdI W0 v p) := Lib.hid (hr.below B0)
  clear hr
  by_cases hL : frCode p B D x t = 0
  · obtain ⟨hv, hvt, hx, ht⟩ := frCode_ok hL
    obtain ⟨hB, hD⟩ := validT_bd hvt
    have hD2 : 1 ≤ D ∧ D ≤ 60 := by omega
    have hp0 := props_nonneg hv
    have hp1 := props_le hv
    have HV := Lib.hid hv
    have HL := Lib.hid hL
    cases hin : inB q 0 (propsP p - 1)
    · have HD : Hid (dotOfP p B D x q t = zDot) := by unfold Hid dotOfP; rw [if_neg (by simp [HL.out]), if_pos hin]
      have HC : Hid (dotOfC p B D x q t = 2) := by unfold Hid dotOfC; rw [if_neg (by simp [HL.out]), if_pos hin]
      obtain ⟨P, HP⟩ : ∃ P, Hid (propsP p = P) := ⟨_, Lib.hid rfl⟩
      rw [HP.out] at hin hp0 hp1
      clear hL hv hvt
      go_enter Try.func41, Try.ntmps41
      go_wp2_with fail
      rw [← hW0]
      clear hW0
      refine (c_impl_frameCode p B D x t _ _ HR.out).mono ?_; rintro e w2 ⟨rfl, hb2⟩; rw [HL.out]
      go_wp2_with fail
      refine (c_impl_propsOf p _ _ (HR.out.below hb2) HV.out).mono ?_; rintro e w3 ⟨rfl, rfl⟩; rw [HP.out]
      go_wp2_with fail
      refine (c_impl_between q 0 (P - 1) _).mono ?_; rintro e w3 ⟨rfl, rfl⟩; rw [hin]
      have z0 := keepc hb2 (kf 0 (by omega))
      have z1 := keepc hb2 (kf 1 (by omega))
      have z2 := keepc hb2 (kf 2 (by omega))
      have z3 := keepc hb2 (kf 3 (by omega))
      have z4 := keepc hb2 (kf 4 (by omega))
      have y0 := frozenc hb2 (kf 0 (by omega)) (ff 0 (by omega))
      have y1 := frozenc hb2 (kf 1 (by omega)) (ff 1 (by omega))
      have y2 := frozenc hb2 (kf 2 (by omega)) (ff 2 (by omega))
      have y3 := frozenc hb2 (kf 3 (by omega)) (ff 3 (by omega))
      have y4 := frozenc hb2 (kf 4 (by omega)) (ff 4 (by omega))
      obtain ⟨W9, hW9, X0', X1', X2', X3', X4', -, -⟩ := set5 w2 (w.heap.size + 1) (.int .i64 0) (.int .i64 0) (.int .i64 0) (.int .i64 0) (.int .i64 0) _ _ _ _ _ z0 z1 z2 z3 z4
      have BF := ((((((B0.tr hb2).setCell (p := ⟨w.heap.size + 1, 0, none⟩) (Nat.le_succ _) (.int .i64 0)).setCell (p := ⟨w.heap.size + 1, 1, none⟩) (Nat.le_succ _) (.int .i64 0)).setCell (p := ⟨w.heap.size + 1, 2, none⟩) (Nat.le_succ _) (.int .i64 0)).setCell (p := ⟨w.heap.size + 1, 3, none⟩) (Nat.le_succ _) (.int .i64 0)).setCell (p := ⟨w.heap.size + 1, 4, none⟩) (Nat.le_succ _) (.int .i64 0))
      rw [← hW9] at BF
      go_wp2
      rw [← hW9]
      clear hW9
      exact bodyPost_ret (v := .tuple #[.agg #[.int .i64 0, .int .i64 0, .int .i64 0, .int .i64 0, .int .i64 0], .int .i64 2]) (by simp [results, Try.results41, go_sem, X0', X1', X2', X3', X4']) rfl ⟨by rw [HD.out, HC.out]; rfl, by first | exact BF | exact BF.drew⟩
    · have hq := inB_iff.1 hin
      obtain ⟨Q, hQ⟩ : ∃ Q : Nat, q = (Q : Int) := ⟨q.toNat, by omega⟩
      subst hQ
      have hQl : Q < (dotsF p B D x t).length := by rw [dotsF_len]; omega
      have HC : Hid (dotOfC p B D x (Q : Int) t = 0) := by unfold Hid dotOfC; rw [if_neg (by simp [HL.out]), if_neg (by simp [hin])]
      obtain ⟨⟨a1, a2, a3, a4, a5⟩, HX⟩ : ∃ y, Hid ((dotsF p B D x t)[Q] = y) := ⟨_, Lib.hid rfl⟩
      have HD : Hid (dotOfP p B D x (Q : Int) t = (a1, a2, a3, a4, a5)) := by
        unfold Hid dotOfP
        rw [if_neg (by simp [HL.out]), if_neg (by simp [hin]), ← HX.out]
        simp [List.getD, hQl]
      obtain ⟨P, HP⟩ : ∃ P, Hid (propsP p = P) := ⟨_, Lib.hid rfl⟩
      rw [HP.out] at hin hp0 hp1 hq
      clear hL hv hvt
      go_enter Try.func41, Try.ntmps41
      go_wp2_with fail
      rw [← hW0]
      clear hW0
      refine (c_impl_frameCode p B D x t _ _ HR.out).mono ?_; rintro e w2 ⟨rfl, hb2⟩; rw [HL.out]
      have k0 := keepc hb2 k0
      have k1 := keepc hb2 k1
      go_wp2_with fail
      refine (c_impl_propsOf p _ _ (HR.out.below hb2) HV.out).mono ?_; rintro e w3 ⟨rfl, rfl⟩; rw [HP.out]
      go_wp2_with fail
      refine (c_impl_between (Q : Int) 0 (P - 1) _).mono ?_; rintro e w3 ⟨rfl, rfl⟩; rw [hin]
      go_wp2_with fail
      refine (c_impl_frame p B D x t _ _ (HR.out.below hb2) HV.out hB hD2 hx ht).mono ?_; rintro e w4 ⟨u, rfl, hu, hb4⟩
      obtain ⟨au, cu, rfl, hul, huc⟩ := hu
      obtain ⟨bu, ou, rfl, hcc⟩ := huc Q hQl
      have c0 : w4.cell? ⟨bu, ou + Q * 5, none⟩ = some (.int .i64 a1) := by have h := hcc 0 _ rfl; rw [HX.out] at h; exact h
      have c1 : w4.cell? ⟨bu, ou + Q * 5 + 1, none⟩ = some (.int .i64 a2) := by have h := hcc 1 _ rfl; rw [HX.out] at h; exact h
      have c2 : w4.cell? ⟨bu, ou + Q * 5 + 2, none⟩ = some (.int .i64 a3) := by have h := hcc 2 _ rfl; rw [HX.out] at h; exact h
      have c3 : w4.cell? ⟨bu, ou + Q * 5 + 3, none⟩ = some (.int .i64 a4) := by have h := hcc 3 _ rfl; rw [HX.out] at h; exact h
      have c4 : w4.cell? ⟨bu, ou + Q * 5 + 4, none⟩ = some (.int .i64 a5) := by have h := hcc 4 _ rfl; rw [HX.out] at h; exact h
      obtain ⟨LL, HLL⟩ : ∃ LL, Hid ((dotsF p B D x t).length = LL) := ⟨_, Lib.hid rfl⟩
      rw [show (dotsF p B D x t).length = LL from HLL.out]
      rw [HLL.out] at hQl hul
      have hq0 : (0 : Int) ≤ (Q : Int) := by omega
      have hq1 : (Q : Int) < (LL : Int) := by omega
      have hB24 := hb2.tr hb4
      clear huc hcc
      have hfld := fldF t (some ⟨bu, ou, none⟩) LL cu
      have z0 := keepc hB24 (kf 0 (by omega))
      have z1 := keepc hB24 (kf 1 (by omega))
      have z2 := keepc hB24 (kf 2 (by omega))
      have z3 := keepc hB24 (kf 3 (by omega))
      have z4 := keepc hB24 (kf 4 (by omega))
      have y0 := frozenc hB24 (kf 0 (by omega)) (ff 0 (by omega))
      have y1 := frozenc hB24 (kf 1 (by omega)) (ff 1 (by omega))
      have y2 := frozenc hB24 (kf 2 (by omega)) (ff 2 (by omega))
      have y3 := frozenc hB24 (kf 3 (by omega)) (ff 3 (by omega))
      have y4 := frozenc hB24 (kf 4 (by omega)) (ff 4 (by omega))
      obtain ⟨W9, hW9, X0', X1', X2', X3', X4', -, -⟩ := set5 w4 (w.heap.size + 1) (.int .i64 a1) (.int .i64 a2) (.int .i64 a3) (.int .i64 a4) (.int .i64 a5) _ _ _ _ _ z0 z1 z2 z3 z4
      have BF := ((((((B0.tr hB24).setCell (p := ⟨w.heap.size + 1, 0, none⟩) (Nat.le_succ _) (.int .i64 a1)).setCell (p := ⟨w.heap.size + 1, 1, none⟩) (Nat.le_succ _) (.int .i64 a2)).setCell (p := ⟨w.heap.size + 1, 2, none⟩) (Nat.le_succ _) (.int .i64 a3)).setCell (p := ⟨w.heap.size + 1, 3, none⟩) (Nat.le_succ _) (.int .i64 a4)).setCell (p := ⟨w.heap.size + 1, 4, none⟩) (Nat.le_succ _) (.int .i64 a5))
      rw [← hW9] at BF
      go_wp2
      rw [← hW9]
      clear hW9
      exact bodyPost_ret (v := .tuple #[.agg #[.int .i64 a1, .int .i64 a2, .int .i64 a3, .int .i64 a4, .int .i64 a5], .int .i64 0]) (by simp [results, Try.results41, go_sem, X0', X1', X2', X3', X4']) rfl ⟨by rw [HD.out, HC.out]; rfl, by first | exact BF | exact BF.drew⟩
  · have HD : Hid (dotOfP p B D x q t = zDot) := by unfold Hid dotOfP; rw [if_pos hL]
    have HC : Hid (dotOfC p B D x q t = frCode p B D x t) := by unfold Hid dotOfC; rw [if_pos hL]
    have t0 : (frCode p B D x t != 0) = true := by simpa using hL
    obtain ⟨L, HL⟩ : ∃ L, Hid (frCode p B D x t = L) := ⟨_, Lib.hid rfl⟩
    rw [HL.out] at t0 HC
    clear hL
    go_enter Try.func41, Try.ntmps41
    go_wp2_with fail
    rw [← hW0]
    clear hW0
    refine (c_impl_frameCode p B D x t _ _ HR.out).mono ?_; rintro e w2 ⟨rfl, hb2⟩; rw [HL.out]
    have z0 := keepc hb2 (kf 0 (by omega))
    have z1 := keepc hb2 (kf 1 (by omega))
    have z2 := keepc hb2 (kf 2 (by omega))
    have z3 := keepc hb2 (kf 3 (by omega))
    have z4 := keepc hb2 (kf 4 (by omega))
    have y0 := frozenc hb2 (kf 0 (by omega)) (ff 0 (by omega))
    have y1 := frozenc hb2 (kf 1 (by omega)) (ff 1 (by omega))
    have y2 := frozenc hb2 (kf 2 (by omega)) (ff 2 (by omega))
    have y3 := frozenc hb2 (kf 3 (by omega)) (ff 3 (by omega))
    have y4 := frozenc hb2 (kf 4 (by omega)) (ff 4 (by omega))
    obtain ⟨W9, hW9, X0', X1', X2', X3', X4', -, -⟩ := set5 w2 (w.heap.size + 1) (.int .i64 0) (.int .i64 0) (.int .i64 0) (.int .i64 0) (.int .i64 0) _ _ _ _ _ z0 z1 z2 z3 z4
    have BF := ((((((B0.tr hb2).setCell (p := ⟨w.heap.size + 1, 0, none⟩) (Nat.le_succ _) (.int .i64 0)).setCell (p := ⟨w.heap.size + 1, 1, none⟩) (Nat.le_succ _) (.int .i64 0)).setCell (p := ⟨w.heap.size + 1, 2, none⟩) (Nat.le_succ _) (.int .i64 0)).setCell (p := ⟨w.heap.size + 1, 3, none⟩) (Nat.le_succ _) (.int .i64 0)).setCell (p := ⟨w.heap.size + 1, 4, none⟩) (Nat.le_succ _) (.int .i64 0))
    rw [← hW9] at BF
    go_wp2
    rw [← hW9]
    clear hW9
    exact bodyPost_ret (v := .tuple #[.agg #[.int .i64 0, .int .i64 0, .int .i64 0, .int .i64 0, .int .i64 0], .int .i64 L]) (by simp [results, Try.results41, go_sem, X0', X1', X2', X3', X4']) rfl ⟨by rw [HD.out, HC.out]; rfl, by first | exact BF | exact BF.drew⟩
end Go.Proofs.Ytpcaaohdlcoplaa
end
section
set_option linter.unusedVariables false
namespace Go.Proofs.Ytpcaaohdlcoplaa
open Go.ChangeShapes Go.WideShapes Go.ChangeAt Go.RowKit
set_option linter.unusedSimpArgs false
def hiS (b d : Dot5) : Dot5 := if b.2.2.2.2 < d.2.2.2.2 then d else b
/-- the first highest of the first k dots -/
def hiN (L : List Dot5) (k : Nat) : Dot5 := (L.take k).foldl hiS (L.getD 0 zDot)
theorem hiN_one {L : List Dot5} (h : 0 < L.length) : hiN L 1 = hiN L 0 := by
  cases L with
  | nil => simp at h
  | cons d L => simp [hiN, hiS]
theorem hiN_succ {L : List Dot5} {k : Nat} (h : k < L.length) : hiN L (k + 1) = hiS (hiN L k) L[k] := by
  unfold hiN
  rw [List.take_add_one, List.getElem?_eq_getElem h, Option.toList_some, List.foldl_append]
  rfl
def hiOfP (p : List Int) (B D x t : Int) : Dot5 := if frCode p B D x t ≠ 0 then zDot else if (dotsF p B D x t).length = 0 then zDot else hiN (dotsF p B D x t) (dotsF p B D x t).length
def hiOfC (p : List Int) (B D x t : Int) : Int := if frCode p B D x t ≠ 0 then frCode p B D x t else if (dotsF p B D x t).length = 0 then 3 else 0
structure HBox (w : World) (g : Nat) (d : Dot5) : Prop where
  c0 : w.cell? ⟨g, 0, none⟩ = some (.int .i64 d.1)
  c1 : w.cell? ⟨g, 1, none⟩ = some (.int .i64 d.2.1)
  c2 : w.cell? ⟨g, 2, none⟩ = some (.int .i64 d.2.2.1)
  c3 : w.cell? ⟨g, 3, none⟩ = some (.int .i64 d.2.2.2.1)
  c4 : w.cell? ⟨g, 4, none⟩ = some (.int .i64 d.2.2.2.2)
  f : ∀ i, i < 5 → w.frozen? ⟨g, i, none⟩ = false
theorem HBox.below {w w' : World} {g : Nat} {d : Dot5} (h : HBox w g d) (hb : Below w.heap.size w w') : HBox w' g d :=
  ⟨keepc hb h.c0, keepc hb h.c1, keepc hb h.c2, keepc hb h.c3, keepc hb h.c4, fun i hi => by
    have : i = 0 ∨ i = 1 ∨ i = 2 ∨ i = 3 ∨ i = 4 := by omega
    rcases this with rfl | rfl | rfl | rfl | rfl
    · exact frozenc hb h.c0 (h.f 0 hi)
    · exact frozenc hb h.c1 (h.f 1 hi)
    · exact frozenc hb h.c2 (h.f 2 hi)
    · exact frozenc hb h.c3 (h.f 3 hi)
    · exact frozenc hb h.c4 (h.f 4 hi)⟩
theorem hBox_val (w : World) (a b c d e : Int) : HBox (w.alloc (Obj.cells #[.int .i64 a, .int .i64 b, .int .i64 c, .int .i64 d, .int .i64 e] 71)) w.heap.size (a, b, c, d, e) := by
  refine ⟨World.cell?_alloc_at _ _ _ _ rfl, World.cell?_alloc_at _ _ _ _ rfl, World.cell?_alloc_at _ _ _ _ rfl, World.cell?_alloc_at _ _ _ _ rfl, World.cell?_alloc_at _ _ _ _ rfl, fun i hi => ?_⟩
  have : i = 0 ∨ i = 1 ∨ i = 2 ∨ i = 3 ∨ i = 4 := by omega
  rcases this with rfl | rfl | rfl | rfl | rfl <;> exact World.frozen?_alloc_at _ _ _ _ rfl
/-- five stores -/
def put5 (w : World) (g : Nat) (a b c d e : Int) : World := ((((w.setCell ⟨g, 0, none⟩ (.int .i64 a)).setCell ⟨g, 1, none⟩ (.int .i64 b)).setCell ⟨g, 2, none⟩ (.int .i64 c)).setCell ⟨g, 3, none⟩ (.int .i64 d)).setCell ⟨g, 4, none⟩ (.int .i64 e)
theorem HBox.put {w : World} {g : Nat} {o : Dot5} (h : HBox w g o) (a b c d e : Int) : HBox (put5 w g a b c d e) g (a, b, c, d, e) := by
  obtain ⟨W9, hW9, x0, x1, x2, x3, x4, hf, -⟩ := set5 w g (.int .i64 a) (.int .i64 b) (.int .i64 c) (.int .i64 d) (.int .i64 e) _ _ _ _ _ h.c0 h.c1 h.c2 h.c3 h.c4
  unfold put5
  rw [← hW9]
  exact ⟨x0, x1, x2, x3, x4, fun i hi => by rw [hf]; exact h.f i hi⟩
theorem HBox.other {w : World} {g g' : Nat} {o : Dot5} (h : HBox w g o) (hne : g' ≠ g) (a b c d e : Int) : HBox (put5 w g' a b c d e) g o := by
  have k : ∀ {j u}, w.cell? ⟨g, j, none⟩ = some u → (put5 w g' a b c d e).cell? ⟨g, j, none⟩ = some u := fun k => cell_setF hne (cell_setF hne (cell_setF hne (cell_setF hne (cell_setF hne k))))
  exact ⟨k h.c0, k h.c1, k h.c2, k h.c3, k h.c4, fun i hi => by unfold put5; simp only [World.frozen?_setCell]; exact h.f i hi⟩
theorem put5_below {A : Nat} {w w' : World} {g : Nat} (h : Below A w w') (hg : A ≤ g) (a b c d e : Int) : Below A w (put5 w' g a b c d e) :=
  ((((h.setCell (p := ⟨g, 0, none⟩) hg _).setCell (p := ⟨g, 1, none⟩) hg _).setCell (p := ⟨g, 2, none⟩) hg _).setCell (p := ⟨g, 3, none⟩) hg _).setCell (p := ⟨g, 4, none⟩) hg _
set_option maxHeartbeats 4000000 in
set_option maxRecDepth 100000 in
theorem c_impl_HighestDot (p : List Int) (B D x t : Int) (v : Value) (w : World) (hr : RdI w v p) :
    Calls Try.prog 42 #[v, .agg #[.int .i64 B, .int .i64 D], .int .i64 x, .int .i64 t] w fun e w' => e = .returned (.tuple #[aggDot (hiOfP p B D x t), .int .i64 (hiOfC p B D x t)]) ∧ Below w.heap.size w w' := by
  obtain ⟨W0, hW0, k0, k1, kf, ff, B0⟩ := boxTD w B D
  have HR : Hid (RdI W0 v p) := Lib.hid (hr.below B0)
  clear hr
  by_cases hL : frCode p B D x t = 0
  · obtain ⟨hv, hvt, hx, ht⟩ := frCode_ok hL
    obtain ⟨hB, hD⟩ := validT_bd hvt
    have hD2 : 1 ≤ D ∧ D ≤ 60 := by omega
    have hp1 := props_le hv
    have HV := Lib.hid hv
    have HL := Lib.hid hL
    obtain ⟨L, HLL⟩ : ∃ L, Hid (dotsF p B D x t = L) := ⟨_, Lib.hid rfl⟩
    have hLl : L.length ≤ 16 := by rw [← HLL.out, dotsF_len]; omega
    clear hL hv hvt
    go_enter Try.func42, Try.ntmps42
    go_wp2_with fail
    rw [← hW0]
    clear hW0
    refine (c_impl_frameCode p B D x t _ _ HR.out).mono ?_; rintro e w2 ⟨rfl, hb2⟩; rw [HL.out]
    have k0 := keepc hb2 k0
    have k1 := keepc hb2 k1
    go_wp2_with fail
    refine (c_impl_frame p B D x t _ _ (HR.out.below hb2) HV.out hB hD2 hx ht).mono ?_; rintro e w4 ⟨u, rfl, hu, hb4⟩
    rw [HLL.out] at hu
    obtain ⟨au, cu, rfl, hul, huc⟩ := hu
    have hB24 := hb2.tr hb4
    have hz2 : w.heap.size + 1 < W0.heap.size := World.block_lt_of_cell? _ _ (kf 0 (by omega))
    have hs24 := hB24.size
    have hfld := fldF t au L.length cu
    by_cases h0 : L.length = 0
    · have HD : Hid (hiOfP p B D x t = zDot) := by unfold Hid hiOfP; rw [if_neg (by simp [HL.out]), if_pos (by rw [HLL.out]; exact h0)]
      have HC : Hid (hiOfC p B D x t = 3) := by unfold Hid hiOfC; rw [if_neg (by simp [HL.out]), if_pos (by rw [HLL.out]; exact h0)]
      obtain rfl : L = [] := List.eq_nil_of_length_eq_zero h0
      have hfld0 := fldF t au 0 cu
      have z0 := keepc hB24 (kf 0 (by omega))
      have z1 := keepc hB24 (kf 1 (by omega))
      have z2 := keepc hB24 (kf 2 (by omega))
      have z3 := keepc hB24 (kf 3 (by omega))
      have z4 := keepc hB24 (kf 4 (by omega))
      have y0 := frozenc hB24 (kf 0 (by omega)) (ff 0 (by omega))
      have y1 := frozenc hB24 (kf 1 (by omega)) (ff 1 (by omega))
      have y2 := frozenc hB24 (kf 2 (by omega)) (ff 2 (by omega))
      have y3 := frozenc hB24 (kf 3 (by omega)) (ff 3 (by omega))
      have y4 := frozenc hB24 (kf 4 (by omega)) (ff 4 (by omega))
      obtain ⟨W9, hW9, X0', X1', X2', X3', X4', -, -⟩ := set5 w4 (w.heap.size + 1) (.int .i64 0) (.int .i64 0) (.int .i64 0) (.int .i64 0) (.int .i64 0) _ _ _ _ _ z0 z1 z2 z3 z4
      have BF := ((((((B0.tr hB24).setCell (p := ⟨w.heap.size + 1, 0, none⟩) (Nat.le_succ _) (.int .i64 0)).setCell (p := ⟨w.heap.size + 1, 1, none⟩) (Nat.le_succ _) (.int .i64 0)).setCell (p := ⟨w.heap.size + 1, 2, none⟩) (Nat.le_succ _) (.int .i64 0)).setCell (p := ⟨w.heap.size + 1, 3, none⟩) (Nat.le_succ _) (.int .i64 0)).setCell (p := ⟨w.heap.size + 1, 4, none⟩) (Nat.le_succ _) (.int .i64 0))
      rw [← hW9] at BF
      go_wp2
      rw [← hW9]
      clear hW9
      exact bodyPost_ret (v := .tuple #[.agg #[.int .i64 0, .int .i64 0, .int .i64 0, .int .i64 0, .int .i64 0], .int .i64 3]) (by simp [results, Try.results42, go_sem, X0', X1', X2', X3', X4']) rfl ⟨by rw [HD.out, HC.out]; rfl, by first | exact BF | exact BF.drew⟩
    · have hp : 0 < L.length := by omega
      have HC : Hid (hiOfC p B D x t = 0) := by unfold Hid hiOfC; rw [if_neg (by simp [HL.out]), if_neg (by rw [HLL.out]; exact h0)]
      have HD : Hid (hiOfP p B D x t = hiN L L.length) := by unfold Hid hiOfP; rw [if_neg (by simp [HL.out]), if_neg (by rw [HLL.out]; exact h0), HLL.out]
      have t0 : ((L.length : Int) == 0) = false := by simpa using h0
      have HUC : Hid (∀ k (hk : k < L.length), ∃ bu ou, au = some ⟨bu, ou, none⟩ ∧ w4.cell? ⟨bu, ou + k * 5, none⟩ = some (.int .i64 L[k].1) ∧ w4.cell? ⟨bu, ou + k * 5 + 1, none⟩ = some (.int .i64 L[k].2.1) ∧ w4.cell? ⟨bu, ou + k * 5 + 2, none⟩ = some (.int .i64 L[k].2.2.1) ∧ w4.cell? ⟨bu, ou + k * 5 + 3, none⟩ = some (.int .i64 L[k].2.2.2.1) ∧ w4.cell? ⟨bu, ou + k * 5 + 4, none⟩ = some (.int .i64 L[k].2.2.2.2)) := fun k hk => by
        obtain ⟨bu, ou, h, hcc⟩ := huc k hk
        exact ⟨bu, ou, h, hcc 0 _ rfl, hcc 1 _ rfl, hcc 2 _ rfl, hcc 3 _ rfl, hcc 4 _ rfl⟩
      clear huc
      obtain ⟨bu, ou, rfl, c0, c1, c2, c3, c4⟩ := HUC.out 0 hp
      rw [Nat.zero_mul, Nat.add_zero] at c0 c1 c2 c3 c4
      obtain ⟨⟨a1, a2, a3, a4, a5⟩, HX⟩ : ∃ y, Hid (L[0] = y) := ⟨_, Lib.hid rfl⟩
      rw [HX.out] at c0 c1 c2 c3 c4
      have H0 : Hid (hiN L 0 = (a1, a2, a3, a4, a5)) := by unfold Hid; rw [← HX.out]; simp [hiN, List.getD, hp]
      have HB1 : HBox (w4.alloc (Obj.cells #[.int .i64 a1, .int .i64 a2, .int .i64 a3, .int .i64 a4, .int .i64 a5] 71)) w4.heap.size (hiN L 0) := by rw [H0.out]; exact hBox_val _ _ _ _ _ _
      have BB1 : Below w4.heap.size w4 (w4.alloc (Obj.cells #[.int .i64 a1, .int .i64 a2, .int .i64 a3, .int .i64 a4, .int .i64 a5] 71)) := (Below.refl _ _).al _
      go_wp2
      go_loopw [39] (fun i wr => ∃ k : Nat, 0 ≤ k ∧ k ≤ L.length ∧ i = .int .i64 k ∧ HBox wr w4.heap.size (hiN L k) ∧ Below w4.heap.size w4 wr) (fun i _ => L.length - (intOf i).toNat)
      case atStart => exact ⟨0, by omega, by omega, by go_num, HB1, BB1⟩
      case round =>
        obtain ⟨k, hks, hk, rfl, HB, BR⟩ := hrel
        have hgz : w4.heap.size < wr.heap.size := World.block_lt_of_cell? _ _ HB.c0
        by_cases hlt : k < L.length
        · obtain ⟨bu, ou, he, d0, d1, d2, d3, d4⟩ := HUC.out k hlt
          cases he
          have d0 := keepc BR d0
          have d1 := keepc BR d1
          have d2 := keepc BR d2
          have d3 := keepc BR d3
          have d4 := keepc BR d4
          obtain ⟨⟨e1, e2, e3, e4, e5⟩, HX⟩ : ∃ y, Hid (L[k] = y) := ⟨_, Lib.hid rfl⟩
          rw [HX.out] at d0 d1 d2 d3 d4
          have hsu := hiN_succ hlt
          rw [HX.out] at hsu
          obtain ⟨⟨b1, b2, b3, b4, b5⟩, HY⟩ : ∃ y, Hid (hiN L k = y) := ⟨_, Lib.hid rfl⟩
          rw [HY.out] at hsu HB
          have HSU := Lib.hid hsu
          have hin0 : (0 : Int) ≤ (k : Int) := Int.natCast_nonneg _
          have hin1 : (k : Int) < (L.length : Int) := by omega
          clear hsu
          have hne : ¬ wr.heap.size = w4.heap.size := by omega
          have hne2 : ¬ w4.heap.size = wr.heap.size := by omega
          have hbu : bu < wr.heap.size := World.block_lt_of_cell? _ _ d0
          have HO := HB.below ((Below.refl _ _).al (Obj.cells #[.int .i64 e1, .int .i64 e2, .int .i64 e3, .int .i64 e4, .int .i64 e5] 71))
          have BN : Below w4.heap.size w4 (wr.alloc (Obj.cells #[.int .i64 e1, .int .i64 e2, .int .i64 e3, .int .i64 e4, .int .i64 e5] 71)) := BR.al _
          have HOH := Lib.hid HO
          obtain ⟨n0, n1, n2, n3, n4, nf⟩ := HB
          clear HO
          by_cases hc : b5 < e5
          · have HE : Hid (hiN L (k + 1) = (e1, e2, e3, e4, e5)) := by unfold Hid; rw [HSU.out]; unfold hiS; rw [if_pos hc]
            have HP := Lib.hid (HBox.below (HBox.put (g := w4.heap.size) ⟨n0, n1, n2, n3, n4, nf⟩ e1 e2 e3 e4 e5) ((Below.refl _ _).al (Obj.cells #[.int .i64 e1, .int .i64 e2, .int .i64 e3, .int .i64 e4, .int .i64 e5] 71)))
            have BP := Lib.hid ((put5_below BR (Nat.le_refl _) e1 e2 e3 e4 e5).al (Obj.cells #[.int .i64 e1, .int .i64 e2, .int .i64 e3, .int .i64 e4, .int .i64 e5] 71))
            have f0 := nf 0 (by omega)
            have f1 := nf 1 (by omega)
            have f2 := nf 2 (by omega)
            have f3 := nf 3 (by omega)
            have f4 := nf 4 (by omega)
            go_wp2
            go_roundw
            case rel => exact ⟨k + 1, by omega, by omega, by go_num, by rw [HE.out]; exact HP.out, BP.out⟩
            case measure => simp [intOf]; omega
          · have HE : Hid (hiN L (k + 1) = (b1, b2, b3, b4, b5)) := by unfold Hid; rw [HSU.out]; unfold hiS; rw [if_neg hc]
            go_wp2
            go_roundw
            case rel => exact ⟨k + 1, by omega, by omega, by go_num, by rw [HE.out]; exact HOH.out, BN⟩
            case measure => simp [intOf]; omega
        · obtain rfl : k = L.length := by omega
          have BW := hB24.tr BR
          obtain ⟨n0, n1, n2, n3, n4, -⟩ := HB
          obtain ⟨⟨b1, b2, b3, b4, b5⟩, HY⟩ : ∃ y, Hid (hiN L L.length = y) := ⟨_, Lib.hid rfl⟩
          rw [HY.out] at n0 n1 n2 n3 n4
          have HD : Hid (hiOfP p B D x t = (b1, b2, b3, b4, b5)) := by unfold Hid; rw [HD.out, HY.out]
          have z0 := keepc BW (kf 0 (by omega))
          have z1 := keepc BW (kf 1 (by omega))
          have z2 := keepc BW (kf 2 (by omega))
          have z3 := keepc BW (kf 3 (by omega))
          have z4 := keepc BW (kf 4 (by omega))
          have y0 := frozenc BW (kf 0 (by omega)) (ff 0 (by omega))
          have y1 := frozenc BW (kf 1 (by omega)) (ff 1 (by omega))
          have y2 := frozenc BW (kf 2 (by omega)) (ff 2 (by omega))
          have y3 := frozenc BW (kf 3 (by omega)) (ff 3 (by omega))
          have y4 := frozenc BW (kf 4 (by omega)) (ff 4 (by omega))
          obtain ⟨W9, hW9, X0', X1', X2', X3', X4', -, -⟩ := set5 wr (w.heap.size + 1) (.int .i64 b1) (.int .i64 b2) (.int .i64 b3) (.int .i64 b4) (.int .i64 b5) _ _ _ _ _ z0 z1 z2 z3 z4
          have BF := ((((((B0.tr BW).setCell (p := ⟨w.heap.size + 1, 0, none⟩) (Nat.le_succ _) (.int .i64 b1)).setCell (p := ⟨w.heap.size + 1, 1, none⟩) (Nat.le_succ _) (.int .i64 b2)).setCell (p := ⟨w.heap.size + 1, 2, none⟩) (Nat.le_succ _) (.int .i64 b3)).setCell (p := ⟨w.heap.size + 1, 3, none⟩) (Nat.le_succ _) (.int .i64 b4)).setCell (p := ⟨w.heap.size + 1, 4, none⟩) (Nat.le_succ _) (.int .i64 b5))
          rw [← hW9] at BF
          go_wp2
          rw [← hW9]
          clear hW9
          exact bodyPost_ret (v := .tuple #[.agg #[.int .i64 b1, .int .i64 b2, .int .i64 b3, .int .i64 b4, .int .i64 b5], .int .i64 0]) (by simp [results, Try.results42, go_sem, X0', X1', X2', X3', X4']) rfl ⟨by rw [HD.out, HC.out]; rfl, by first | exact BF | exact BF.drew⟩
  · have HD : Hid (hiOfP p B D x t = zDot) := by unfold Hid hiOfP; rw [if_pos hL]
    have HC : Hid (hiOfC p B D x t = frCode p B D x t) := by unfold Hid hiOfC; rw [if_pos hL]
    have t0 : (frCode p B D x t != 0) = true := by simpa using hL
    obtain ⟨L, HL⟩ : ∃ L, Hid (frCode p B D x t = L) := ⟨_, Lib.hid rfl⟩
    rw [HL.out] at t0 HC
    clear hL
    go_enter Try.func42, Try.ntmps42
    go_wp2_with fail
    rw [← hW0]
    clear hW0
    refine (c_impl_frameCode p B D x t _ _ HR.out).mono ?_; rintro e w2 ⟨rfl, hb2⟩; rw [HL.out]
    have z0 := keepc hb2 (kf 0 (by omega))
    have z1 := keepc hb2 (kf 1 (by omega))
    have z2 := keepc hb2 (kf 2 (by omega))
    have z3 := keepc hb2 (kf 3 (by omega))
    have z4 := keepc hb2 (kf 4 (by omega))
    have y0 := frozenc hb2 (kf 0 (by omega)) (ff 0 (by omega))
    have y1 := frozenc hb2 (kf 1 (by omega)) (ff 1 (by omega))
    have y2 := frozenc hb2 (kf 2 (by omega)) (ff 2 (by omega))
    have y3 := frozenc hb2 (kf 3 (by omega)) (ff 3 (by omega))
    have y4 := frozenc hb2 (kf 4 (by omega)) (ff 4 (by omega))
    obtain ⟨W9, hW9, X0', X1', X2', X3', X4', -, -⟩ := set5 w2 (w.heap.size + 1) (.int .i64 0) (.int .i64 0) (.int .i64 0) (.int .i64 0) (.int .i64 0) _ _ _ _ _ z0 z1 z2 z3 z4
    have BF := ((((((B0.tr hb2).setCell (p := ⟨w.heap.size + 1, 0, none⟩) (Nat.le_succ _) (.int .i64 0)).setCell (p := ⟨w.heap.size + 1, 1, none⟩) (Nat.le_succ _) (.int .i64 0)).setCell (p := ⟨w.heap.size + 1, 2, none⟩) (Nat.le_succ _) (.int .i64 0)).setCell (p := ⟨w.heap.size + 1, 3, none⟩) (Nat.le_succ _) (.int .i64 0)).setCell (p := ⟨w.heap.size + 1, 4, none⟩) (Nat.le_succ _) (.int .i64 0))
    rw [← hW9] at BF
    go_wp2
    rw [← hW9]
    clear hW9
    exact bodyPost_ret (v := .tuple #[.agg #[.int .i64 0, .int .i64 0, .int .i64 0, .int .i64 0, .int .i64 0], .int .i64 L]) (by simp [results, Try.results42, go_sem, X0', X1', X2', X3', X4']) rfl ⟨by rw [HD.out, HC.out]; rfl, by first | exact BF | exact BF.drew⟩
end Go.Proofs.Ytpcaaohdlcoplaa
end
section
set_option linter.unusedVariables false
namespace Go.Proofs.Ytpcaaohdlcoplaa
open Go.ChangeShapes Go.WideShapes Go.ChangeAt Go.RowKit
set_option linter.unusedSimpArgs false
def faT (p : List Int) (B D x t : Int) : Int := if frCode p B D x t ≠ 0 then 0 else t
def faL (p : List Int) (B D x t : Int) : List Dot5 := if frCode p B D x t ≠ 0 then [] else dotsF p B D x t
theorem faL_len (p : List Int) (B D x t : Int) : (faL p B D x t).length ≤ 16 := by
  unfold faL
  split
  · simp
  · rename_i h
    have h0 : frCode p B D x t = 0 := by omega
    have := props_le (frCode_ok h0).1
    rw [dotsF_len]; omega
theorem own_sl {E : TypeId} {lo hi : Nat} {w : World} {v : Value} {xs : List Dot5} (h : OwnRow E 5 rowD lo hi w v xs) : ∃ a cap, v = .slice a xs.length cap := by
  obtain ⟨a, cap, e, _⟩ := h.rd rowD_len
  exact ⟨a, cap, e⟩
set_option maxHeartbeats 4000000 in
set_option maxRecDepth 100000 in
theorem c_impl_FrameAt (p : List Int) (B D x t : Int) (v : Value) (w : World) (hr : RdI w v p) :
    Calls Try.prog 39 #[v, .agg #[.int .i64 B, .int .i64 D], .int .i64 x, .int .i64 t] w fun e w' => ∃ a cap, e = .returned (.tuple #[.agg #[.int .i64 (faT p B D x t), .slice a (faL p B D x t).length cap], .int .i64 (frCode p B D x t)]) ∧ OwnRow 71 5 rowD w.heap.size w'.heap.size w' (.slice a (faL p B D x t).length cap) (faL p B D x t) ∧ Below w.heap.size w w' := by
  obtain ⟨W0, hW0, k0, k1, g0, g1, e0, e1, B0⟩ := boxTFr w B D
  have HR : Hid (RdI W0 v p) := Lib.hid (hr.below B0)
  clear hr
  have hz0 : w.heap.size + 1 < W0.heap.size := World.block_lt_of_cell? _ _ g0
  by_cases hL : frCode p B D x t = 0
  · have eT : faT p B D x t = t := by unfold faT; rw [if_neg (by simp [hL])]
    have eL : faL p B D x t = dotsF p B D x t := by unfold faL; rw [if_neg (by simp [hL])]
    rw [eT, eL, hL]
    obtain ⟨hv, hvt, hx, ht⟩ := frCode_ok hL
    obtain ⟨hB, hD⟩ := validT_bd hvt
    have hD2 : 1 ≤ D ∧ D ≤ 60 := by omega
    have HV := Lib.hid hv
    have HL := Lib.hid hL
    obtain ⟨L, HLL⟩ : ∃ L, Hid (dotsF p B D x t = L) := ⟨_, Lib.hid rfl⟩
    rw [HLL.out]
    clear hL hv hvt eT eL
    go_enter Try.func39, Try.ntmps39
    go_wp2_with fail
    rw [← hW0]
    clear hW0
    refine (c_impl_frameCode p B D x t _ _ HR.out).mono ?_; rintro e w2 ⟨rfl, hb2⟩; rw [HL.out]
    have k0 := keepc hb2 k0
    have k1 := keepc hb2 k1
    go_wp2_with fail
    refine (c_impl_frameO p B D x t _ _ (HR.out.below hb2) HV.out hB hD2 hx ht).mono ?_; rintro e w4 ⟨u, rfl, hu, hb4⟩
    rw [HLL.out] at hu
    obtain ⟨au, cu, rfl⟩ := own_sl hu
    have hB24 := hb2.tr hb4
    have hs2 := hb2.size
    have e0 := frozenc hB24 g0 e0
    have e1 := frozenc hB24 g1 e1
    have g0 := keepc hB24 g0
    have g1 := keepc hB24 g1
    obtain ⟨X0, X1, -, hg⟩ := set2 w4 (w.heap.size + 1) (.int .i64 t) (.slice au L.length cu) _ _ g0 g1
    have BZ := ((B0.tr hB24).setCell (p := ⟨w.heap.size + 1, 0, none⟩) (Nat.le_succ _) (.int .i64 t)).setCell (p := ⟨w.heap.size + 1, 1, none⟩) (Nat.le_succ _) (.slice au L.length cu)
    have hs4 := hg.size
    have HOW := Lib.hid (((hu.upd (Upd.of_grown (lo := w.heap.size + 1) (hi := w.heap.size + 2) hg (fun k hk => by simp only [Option.some.injEq] at hk; omega)) (Or.inr (by omega))).wide (lo' := w.heap.size) (by omega) (Nat.le_refl _)).tight)
    clear hu
    go_wp2
    generalize ((w4.setCell ⟨w.heap.size + 1, 0, none⟩ (.int .i64 t)).setCell ⟨w.heap.size + 1, 1, none⟩ (.slice au L.length cu)) = wz at *
    exact bodyPost_ret (v := .tuple #[.agg #[.int .i64 t, .slice au L.length cu], .int .i64 0]) (by simp [results, Try.results39, go_sem, X0, X1]) rfl ⟨_, _, rfl, HOW.out, by first | exact BZ | exact BZ.drew⟩
  · have eT : faT p B D x t = 0 := by unfold faT; rw [if_pos hL]
    have eL : faL p B D x t = [] := by unfold faL; rw [if_pos hL]
    rw [eT, eL]
    clear eT eL
    have t0 : (frCode p B D x t != 0) = true := by simpa using hL
    obtain ⟨L, HL⟩ : ∃ L, Hid (frCode p B D x t = L) := ⟨_, Lib.hid rfl⟩
    rw [HL.out] at t0 ⊢
    clear hL
    go_enter Try.func39, Try.ntmps39
    go_wp2_with fail
    rw [← hW0]
    clear hW0
    refine (c_impl_frameCode p B D x t _ _ HR.out).mono ?_; rintro e w2 ⟨rfl, hb2⟩; rw [HL.out]
    have e0 := frozenc hb2 g0 e0
    have e1 := frozenc hb2 g1 e1
    have g0 := keepc hb2 g0
    have g1 := keepc hb2 g1
    obtain ⟨X0, X1, -, hg⟩ := set2 w2 (w.heap.size + 1) (.int .i64 0) (.slice none 0 0) _ _ g0 g1
    have BZ := ((B0.tr hb2).setCell (p := ⟨w.heap.size + 1, 0, none⟩) (Nat.le_succ _) (.int .i64 0)).setCell (p := ⟨w.heap.size + 1, 1, none⟩) (Nat.le_succ _) (.slice none 0 0)
    have HOW : ∀ {W : World}, Hid (OwnRow 71 5 rowD w.heap.size W.heap.size W (.slice none ([] : List Dot5).length 0) ([] : List Dot5)) := fun {W} => Lib.hid (OwnRow.nil _ rfl)
    go_wp2
    generalize ((w2.setCell ⟨w.heap.size + 1, 0, none⟩ (.int .i64 0)).setCell ⟨w.heap.size + 1, 1, none⟩ (.slice none 0 0)) = wz at *
    exact bodyPost_ret (v := .tuple #[.agg #[.int .i64 0, .slice none 0 0], .int .i64 L]) (by simp [results, Try.results39, go_sem, X0, X1]) rfl ⟨_, _, rfl, HOW.out, by first | exact BZ | exact BZ.drew⟩
end Go.Proofs.Ytpcaaohdlcoplaa
end
