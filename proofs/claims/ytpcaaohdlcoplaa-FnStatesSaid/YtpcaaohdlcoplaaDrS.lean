/- The draws of the laws, further: two patterns with as many props and a height that both fit; a low pattern. -/
import Derived.Test.YtpcaaohdlcoplaaDrR
namespace Go.Proofs.Ytpcaaohdlcoplaa
open Go.ChangeShapes Go.WideShapes Go.ChangeAt Go.RowKit
set_option linter.unusedVariables false
set_option linter.unusedSimpArgs false
theorem brC_mk {a b : List Int} {h : Int} (hva : validP a = true) (hvb : validP b = true) (hh : 1 ≤ h ∧ h ≤ 10) (ha : mxF 0 a ≤ h) (hb : mxF 0 b ≤ h) (he : propsP a = propsP b) : brC a b h = 0 := by
  unfold brC fitB
  rw [hva, hvb, inB_iff.2 hh, he]
  have h1 : ¬ mxF 0 a > h := by omega
  have h2 : ¬ mxF 0 b > h := by omega
  simp [h1, h2]
set_option maxHeartbeats 8000000 in
set_option maxRecDepth 100000 in
theorem c_spec_l10Two (W0 : World) (g k : Nat) (bs : List Int) (w : World) (h : Src W0 g bs k w) (hk : k < 500000) :
    Calls Try.prog 46 #[.pointer (some ⟨g, 0, none⟩)] w fun e w' => ∃ (v1 v2 : Value) (a b : List Int) (x : Int) (k' : Nat), e = .returned (.tuple #[v1, v2, .int .i64 x]) ∧ RdI w' v1 a ∧ RdI w' v2 b ∧ (∀ x ∈ a, -1 ≤ x ∧ x ≤ 31) ∧ (∀ x ∈ b, -1 ≤ x ∧ x ≤ 31) ∧ k' ≤ k + 30200 ∧ Src W0 g bs k' w' ∧ Upd g (g + 1) w w' := by
  have hgl := h.lt
  have HH := Lib.hid h
  go_enter Try.func46, Try.ntmps46
  go_wp2_with fail
  refine (c_spec_l10Draw W0 g k bs _ HH.out (by omega)).mono ?_; rintro e w1 ⟨va, xs, k1, rfl, ha1, hxl, hxb, hk1, S1, U1⟩
  have hs1 := U1.size
  go_wp2_with fail
  refine (c_spec_l10Draw W0 g k1 bs _ S1 (by omega)).mono ?_; rintro e w2 ⟨vb, ys0, k2, rfl, hb2, hyl0, hyb0, hk2, S2, U2⟩
  have hs2 := U2.size
  have ha2 := ha1.upd U2 (Or.inr (by omega))
  go_wp2
  go_loopw [6, 7] (fun vb i wr => ∃ (j : Nat) (ys : List Int) (q : Nat), j ≤ 8 ∧ i = .int .i64 j ∧ OwnIR 2 w.heap.size wr.heap.size wr vb ys ∧ (∀ x ∈ ys, -1 ≤ x ∧ x ≤ 31) ∧ q ≤ k2 + 3010 * j ∧ Src W0 g bs q wr ∧ Upd g (g + 1) w2 wr) (fun _ i _ => 8 - (intOf i).toNat)
  case atStart => exact ⟨0, ys0, k2, by omega, by go_num, hb2.wide (by omega) (Nat.le_refl _), hyb0, by omega, S2, Upd.of_below (Below.refl _ _)⟩
  case round =>
    obtain ⟨j, ys, q, hj, rfl, hob, hyb, hq, SR, UR⟩ := hrel
    have hUs := UR.size
    have hoa := ha2.upd UR (Or.inr (by omega))
    have UA := (U1.trans U2).trans UR
    by_cases hlt : j < 8
    · go_wp2_with fail
      refine (c_spec_l02Ok xs _ _ hoa.rd).mono ?_; rintro e w5 ⟨rfl, hb5⟩
      have SR5 := SR.below hb5
      have hoa5 := hoa.below hb5
      have hob5 := hob.below hb5
      have UA5 := UA.trans (Upd.of_below hb5)
      cases hva : validP xs
      · skip
        go_wp2_with fail
        refine (c_spec_l02High ys _ _ (hob5).rd).mono ?_; rintro e wh ⟨rfl, rfl⟩
        go_wp2_with fail
        refine (c_spec_l02High xs _ _ (hoa5).rd).mono ?_; rintro e wh ⟨rfl, rfl⟩
        by_cases hgt : mxF 0 xs < mxF 0 ys
        · have tg : decide (mxF 0 xs < mxF 0 ys) = true := by simpa using hgt
          go_wp2_with fail
          refine (c_spec_l10Height W0 g q bs ys _ _ SR5 (hob5).rd (fun n e => by have := OwnI.gt (hob5).1 n e; omega) hyb (by omega)).mono ?_; rintro e wH ⟨hx, kH, rfl, hkH, SH, UH⟩
          go_wp2
          go_ret3
          exact ⟨_, _, xs, ys, hx, kH, rfl, ((hoa5).upd UH (Or.inr (by omega))).rd, ((hob5).upd UH (Or.inr (by omega))).rd, hxb, hyb, by omega, SH, (UA5).trans UH⟩
        · have tg : decide (mxF 0 xs < mxF 0 ys) = false := by simpa using hgt
          go_wp2_with fail
          refine (c_spec_l10Height W0 g q bs xs _ _ SR5 (hoa5).rd (fun n e => by have := OwnI.gt (hoa5).1 n e; omega) hxb (by omega)).mono ?_; rintro e wH ⟨hx, kH, rfl, hkH, SH, UH⟩
          go_wp2
          go_ret3
          exact ⟨_, _, xs, ys, hx, kH, rfl, ((hoa5).upd UH (Or.inr (by omega))).rd, ((hob5).upd UH (Or.inr (by omega))).rd, hxb, hyb, by omega, SH, (UA5).trans UH⟩
      · go_wp2_with fail
        refine (c_spec_l02Ok ys _ _ hob5.rd).mono ?_; rintro e w6 ⟨rfl, hb6⟩
        have SR6 := SR5.below hb6
        have hoa6 := hoa5.below hb6
        have hob6 := hob5.below hb6
        have UA6 := UA5.trans (Upd.of_below hb6)
        cases hvb : validP ys
        · skip
          go_wp2_with fail
          refine (c_spec_l02High ys _ _ (hob6).rd).mono ?_; rintro e wh ⟨rfl, rfl⟩
          go_wp2_with fail
          refine (c_spec_l02High xs _ _ (hoa6).rd).mono ?_; rintro e wh ⟨rfl, rfl⟩
          by_cases hgt : mxF 0 xs < mxF 0 ys
          · have tg : decide (mxF 0 xs < mxF 0 ys) = true := by simpa using hgt
            go_wp2_with fail
            refine (c_spec_l10Height W0 g q bs ys _ _ SR6 (hob6).rd (fun n e => by have := OwnI.gt (hob6).1 n e; omega) hyb (by omega)).mono ?_; rintro e wH ⟨hx, kH, rfl, hkH, SH, UH⟩
            go_wp2
            go_ret3
            exact ⟨_, _, xs, ys, hx, kH, rfl, ((hoa6).upd UH (Or.inr (by omega))).rd, ((hob6).upd UH (Or.inr (by omega))).rd, hxb, hyb, by omega, SH, (UA6).trans UH⟩
          · have tg : decide (mxF 0 xs < mxF 0 ys) = false := by simpa using hgt
            go_wp2_with fail
            refine (c_spec_l10Height W0 g q bs xs _ _ SR6 (hoa6).rd (fun n e => by have := OwnI.gt (hoa6).1 n e; omega) hxb (by omega)).mono ?_; rintro e wH ⟨hx, kH, rfl, hkH, SH, UH⟩
            go_wp2
            go_ret3
            exact ⟨_, _, xs, ys, hx, kH, rfl, ((hoa6).upd UH (Or.inr (by omega))).rd, ((hob6).upd UH (Or.inr (by omega))).rd, hxb, hyb, by omega, SH, (UA6).trans UH⟩
        · go_wp2_with fail
          refine (c_spec_l02Props xs _ _ hoa6.rd hva).mono ?_; rintro e wp ⟨rfl, rfl⟩
          go_wp2_with fail
          refine (c_spec_l02Props ys _ _ hob6.rd hvb).mono ?_; rintro e wp ⟨rfl, rfl⟩
          by_cases hpe : propsP xs = propsP ys
          · have tp : (propsP xs != propsP ys) = false := by simp [hpe]
            go_wp2_with fail
            refine (c_spec_l02High ys _ _ (hob6).rd).mono ?_; rintro e wh ⟨rfl, rfl⟩
            go_wp2_with fail
            refine (c_spec_l02High xs _ _ (hoa6).rd).mono ?_; rintro e wh ⟨rfl, rfl⟩
            by_cases hgt : mxF 0 xs < mxF 0 ys
            · have tg : decide (mxF 0 xs < mxF 0 ys) = true := by simpa using hgt
              go_wp2_with fail
              refine (c_spec_l10Height W0 g q bs ys _ _ SR6 (hob6).rd (fun n e => by have := OwnI.gt (hob6).1 n e; omega) hyb (by omega)).mono ?_; rintro e wH ⟨hx, kH, rfl, hkH, SH, UH⟩
              go_wp2
              go_ret3
              exact ⟨_, _, xs, ys, hx, kH, rfl, ((hoa6).upd UH (Or.inr (by omega))).rd, ((hob6).upd UH (Or.inr (by omega))).rd, hxb, hyb, by omega, SH, (UA6).trans UH⟩
            · have tg : decide (mxF 0 xs < mxF 0 ys) = false := by simpa using hgt
              go_wp2_with fail
              refine (c_spec_l10Height W0 g q bs xs _ _ SR6 (hoa6).rd (fun n e => by have := OwnI.gt (hoa6).1 n e; omega) hxb (by omega)).mono ?_; rintro e wH ⟨hx, kH, rfl, hkH, SH, UH⟩
              go_wp2
              go_ret3
              exact ⟨_, _, xs, ys, hx, kH, rfl, ((hoa6).upd UH (Or.inr (by omega))).rd, ((hob6).upd UH (Or.inr (by omega))).rd, hxb, hyb, by omega, SH, (UA6).trans UH⟩
          · have tp : (propsP xs != propsP ys) = true := by simpa using hpe
            go_wp2_with fail
            refine (c_spec_l10Draw W0 g q bs _ SR6 (by omega)).mono ?_; rintro e w7 ⟨vb7, ys7, k7, rfl, hb7, hyl7, hyb7, hk7, S7, U7⟩
            go_wp2
            go_roundw
            case rel => exact ⟨j + 1, ys7, k7, by omega, by go_num, hb7.wide (by have := hb5.size; have := hb6.size; omega) (Nat.le_refl _), hyb7, by omega, S7, ((UR.trans (Upd.of_below hb5)).trans (Upd.of_below hb6)).trans U7⟩
            case measure => simp [intOf]; omega
    · obtain rfl : j = 8 := by omega
      go_wp2_with fail
      refine (c_spec_l02High ys _ _ (hob).rd).mono ?_; rintro e wh ⟨rfl, rfl⟩
      go_wp2_with fail
      refine (c_spec_l02High xs _ _ (hoa).rd).mono ?_; rintro e wh ⟨rfl, rfl⟩
      by_cases hgt : mxF 0 xs < mxF 0 ys
      · have tg : decide (mxF 0 xs < mxF 0 ys) = true := by simpa using hgt
        go_wp2_with fail
        refine (c_spec_l10Height W0 g q bs ys _ _ SR (hob).rd (fun n e => by have := OwnI.gt (hob).1 n e; omega) hyb (by omega)).mono ?_; rintro e wH ⟨hx, kH, rfl, hkH, SH, UH⟩
        go_wp2
        go_ret3
        exact ⟨_, _, xs, ys, hx, kH, rfl, ((hoa).upd UH (Or.inr (by omega))).rd, ((hob).upd UH (Or.inr (by omega))).rd, hxb, hyb, by omega, SH, (UA).trans UH⟩
      · have tg : decide (mxF 0 xs < mxF 0 ys) = false := by simpa using hgt
        go_wp2_with fail
        refine (c_spec_l10Height W0 g q bs xs _ _ SR (hoa).rd (fun n e => by have := OwnI.gt (hoa).1 n e; omega) hxb (by omega)).mono ?_; rintro e wH ⟨hx, kH, rfl, hkH, SH, UH⟩
        go_wp2
        go_ret3
        exact ⟨_, _, xs, ys, hx, kH, rfl, ((hoa).upd UH (Or.inr (by omega))).rd, ((hob).upd UH (Or.inr (by omega))).rd, hxb, hyb, by omega, SH, (UA).trans UH⟩
set_option maxHeartbeats 8000000 in
set_option maxRecDepth 100000 in
theorem c_spec_A2Two (bs : List Int) (v : Value) (w : World) (h : RdB w v bs) :
    Calls Try.prog 8 #[v] w fun e w' => ∃ (v1 v2 : Value) (a b : List Int) (x : Int), e = .returned (.tuple #[v1, v2, .int .i64 x]) ∧ RdI w' v1 a ∧ RdI w' v2 b ∧ brC a b x = 0 ∧ Below w.heap.size w w' := by
  go_enter Try.func8, Try.ntmps8
  go_wp2_with fail
  refine (c_spec_l00From bs v _ h).mono ?_; rintro e w1 ⟨rfl, S1, hb1⟩
  go_wp2
  go_loopw [6] (fun i wr => ∃ (j : Nat) (q : Nat), j ≤ 6 ∧ i = .int .i64 j ∧ q ≤ 30200 * j ∧ Src w w.heap.size bs q wr) (fun i _ => 6 - (intOf i).toNat)
  case atStart => exact ⟨0, 0, by omega, by go_num, by omega, S1⟩
  case round =>
    obtain ⟨j, q, hj, rfl, hq, SR⟩ := hrel
    by_cases hlt : j < 6
    · go_wp2_with fail
      refine (c_spec_l10Two w w.heap.size q bs _ SR (by omega)).mono ?_; rintro e w2 ⟨v1, v2, a, b, x, q2, rfl, r1, r2, hab, hbb, hq2, S2, U2⟩
      go_wp2_with fail
      refine (c_spec_l02Ok a _ _ r1).mono ?_; rintro e w5 ⟨rfl, hb5⟩
      have S5 := S2.below hb5
      cases hva : validP a
      · go_wp2
        go_roundw
        case rel => exact ⟨j + 1, q2, by omega, by go_num, by omega, S5⟩
        case measure => simp [intOf]; omega
      · go_wp2_with fail
        refine (c_spec_l02Ok b _ _ (r2.below hb5)).mono ?_; rintro e w6 ⟨rfl, hb6⟩
        have S6 := S5.below hb6
        cases hvb : validP b
        · go_wp2
          go_roundw
          case rel => exact ⟨j + 1, q2, by omega, by go_num, by omega, S6⟩
          case measure => simp [intOf]; omega
        · have R1 := (r1.below hb5).below hb6
          have R2 := (r2.below hb5).below hb6
          go_wp2_with fail
          refine (c_spec_l02Props a _ _ R1 hva).mono ?_; rintro e wp ⟨rfl, rfl⟩
          go_wp2_with fail
          refine (c_spec_l02Props b _ _ R2 hvb).mono ?_; rintro e wp ⟨rfl, rfl⟩
          by_cases hpe : propsP a = propsP b
          · have tp : (propsP a == propsP b) = true := by simp [hpe]
            have hma := mxF_bd (p := a) (m := 31) (by omega) (fun x hx => (hab x hx).2)
            have hmb := mxF_bd (p := b) (m := 31) (by omega) (fun x hx => (hbb x hx).2)
            go_wp2_with fail
            refine (c_spec_l02High a _ _ R1).mono ?_; rintro e wh ⟨rfl, rfl⟩
            go_wp2_with fail
            refine (c_spec_l02High b _ _ R2).mono ?_; rintro e wh ⟨rfl, rfl⟩
            go_wp2_with fail
            refine (c_spec_l00Max' (mxF 0 a) (mxF 0 b) _).mono ?_; rintro e wh ⟨rfl, rfl⟩
            go_wp2_with fail
            refine (c_spec_l00Max' 1 (max (mxF 0 a) (mxF 0 b)) _).mono ?_; rintro e wh ⟨rfl, rfl⟩
            obtain ⟨H, hH⟩ : ∃ H, max 1 (max (mxF 0 a) (mxF 0 b)) = H := ⟨_, rfl⟩
            have hHb : 1 ≤ H ∧ mxF 0 a ≤ H ∧ mxF 0 b ≤ H := by omega
            rw [hH]
            by_cases h10 : H ≤ 10
            · have t10 : decide (H ≤ 10) = true := by simpa using h10
              go_wp2
              go_ret3
              exact ⟨v1, v2, a, b, H, rfl, R1, R2, brC_mk hva hvb ⟨hHb.1, h10⟩ hHb.2.1 hHb.2.2 hpe, S6.hb⟩
            · have t10 : decide (H ≤ 10) = false := by simpa using h10
              go_wp2
              go_roundw
              case rel => exact ⟨j + 1, q2, by omega, by go_num, by omega, S6⟩
              case measure => simp [intOf]; omega
          · have tp : (propsP a == propsP b) = false := beq_eq_false_iff_ne.2 hpe
            go_wp2
            go_roundw
            case rel => exact ⟨j + 1, q2, by omega, by go_num, by omega, S6⟩
            case measure => simp [intOf]; omega
    · obtain rfl : j = 6 := by omega
      have hBB := SR.hb
      have R1 : RdI ((wr.alloc (Obj.cells #[.int .i64 3] 2)).alloc (Obj.cells #[.int .i64 5, .int .i64 3, .int .i64 1] 2)) (.slice (some ⟨wr.heap.size, 0, none⟩) 1 1) [3] := by
        have h0 : RdI (wr.alloc (Obj.cells #[.int .i64 3] 2)) (.slice (some ⟨wr.heap.size, 0, none⟩) 1 1) [3] := ⟨_, _, rfl, by simp, fun k hk => ⟨wr.heap.size, 0, rfl, by
          obtain rfl : k = 0 := by simpa using hk
          exact World.cell?_alloc_at _ _ _ _ rfl⟩⟩
        exact h0.below ((Below.refl _ _).al _)
      have R2 : RdI ((wr.alloc (Obj.cells #[.int .i64 3] 2)).alloc (Obj.cells #[.int .i64 5, .int .i64 3, .int .i64 1] 2)) (.slice (some ⟨wr.heap.size + 1, 0, none⟩) 3 3) [5, 3, 1] := by
        have hsz : (wr.alloc (Obj.cells #[.int .i64 3] 2)).heap.size = wr.heap.size + 1 := World.size_alloc _ _
        rw [← hsz]
        refine ⟨_, _, rfl, by simp, fun k hk => ⟨_, 0, rfl, ?_⟩⟩
        have hk' : k < 3 := by simpa using hk
        have : k = 0 ∨ k = 1 ∨ k = 2 := by omega
        rcases this with rfl | rfl | rfl <;> exact World.cell?_alloc_at _ _ _ _ rfl
      go_wp2
      go_ret3
      exact ⟨_, _, [3], [5, 3, 1], 5, rfl, R1, R2, brC_mk (by decide) (by decide) (by omega) (by decide) (by decide) (by decide), (hBB.al _).al _⟩
end Go.Proofs.Ytpcaaohdlcoplaa
