/- The law LinesX: what it rests on, part 16 of 46. -/
import Derived.Test.YtioemkdapoombaaGreatDoorQLinesX13
import Derived.Test.YtioemkdapoombaaGreatDoorQLinesX15
section
namespace Go.Proofs.YtioemkdapoombaaGreatDoor
open Go.ChangeShapes Go.WideShapes Go.ChangeAt Go.RowKit
set_option linter.unusedSimpArgs false
set_option linter.unusedVariables false
theorem getD_bd {xs : List Int} {lo hi : Int} (h : ∀ x ∈ xs, lo ≤ x ∧ x ≤ hi) {k : Nat} (hk : k < xs.length) : lo ≤ xs.getD k 0 ∧ xs.getD k 0 ≤ hi := h _ (getD_mem' hk)
theorem c_spec_l03Checked (xs : List Int) (v : Value) (w : World) (h : RdI w v xs) :
    Calls Tryz.prog 156 #[v] w fun e w' => e = .returned (.tuple #[bif okThrows xs then v else .slice none 0 0, .int .i64 (bif okThrows xs then 0 else 2)]) ∧ w = w' := by
  cases hok : okThrows xs
  · go_enter Tryz.func156, Tryz.ntmps156
    go_wp2_with fail
    refine (c_spec_l02List xs _ _ h).mono ?_; rintro e w2 ⟨rfl, rfl⟩; rw [hok]
    go_wp2
    go_ret2
    exact ⟨rfl, rfl⟩
  · go_enter Tryz.func156, Tryz.ntmps156
    go_wp2_with fail
    refine (c_spec_l02List xs _ _ h).mono ?_; rintro e w2 ⟨rfl, rfl⟩; rw [hok]
    go_wp2
    go_ret2
    exact ⟨rfl, rfl⟩
set_option maxHeartbeats 4000000 in
set_option maxRecDepth 100000 in
theorem c_spec_SwapLandings (xs : List Int) (i k : Nat) (v : Value) (w : World) (h : RdI w v xs) (hi : i < xs.length) (hk : k < xs.length) :
    Calls Tryz.prog 130 #[v, .int .i64 (i : Int), .int .i64 (k : Int)] w fun e w' => ∃ (r : Value) (ys : List Int) (c : Int), e = .returned (.tuple #[r, .int .i64 c]) ∧ OwnIR 2 w.heap.size w'.heap.size w' r ys ∧ (c = 0 → okThrows ys = true ∧ ys.length = xs.length) ∧ Below w.heap.size w w' := by
  have HR := Lib.hid h
  cases hv : validP xs
  · go_enter Tryz.func130, Tryz.ntmps130
    go_wp2_with fail
    refine (c_spec_l02Ok xs _ _ HR.out).mono ?_; rintro e w2 ⟨rfl, hb2⟩; rw [hv]
    go_wp2
    go_ret2
    exact ⟨_, [], 1, rfl, ⟨OwnI.nil _ rfl, fun k hk => by simp [Value.ownBlock] at hk⟩, fun e => absurd e (by decide), hb2⟩
  · have hbd := (validP_iff.1 hv).1
    obtain ⟨a1, cap1, rfl, hl1, hc1⟩ := h
    obtain ⟨b1, o1, rfl, hk1⟩ := hc1 k hk
    obtain ⟨b2, o2, he2, hk2⟩ := hc1 i hi
    cases he2
    have hzb : b1 < w.heap.size := World.block_lt_of_cell? _ _ hk1
    have hX := getD_bd hbd.1 hk
    have hY := getD_bd hbd.1 hi
    obtain ⟨X, eX⟩ : ∃ X, xs.getD k 0 = X := ⟨_, rfl⟩
    obtain ⟨Y, eY⟩ : ∃ Y, xs.getD i 0 = Y := ⟨_, rfl⟩
    rw [eX] at hk1 hX
    rw [eY] at hk2 hY
    have hin1 : inB (i : Int) 0 ((xs.length : Int) - 1) = true := inB_iff.2 ⟨by omega, by omega⟩
    have hin2 : inB (k : Int) 0 ((xs.length : Int) - 1) = true := inB_iff.2 ⟨by omega, by omega⟩
    have HI1 := Lib.hid hin1
    have HI2 := Lib.hid hin2
    have hlen := hbd.2
    clear hc1 hin1 hin2 eX eY hbd
    go_enter Tryz.func130, Tryz.ntmps130
    go_wp2_with fail
    refine (c_spec_l02Ok xs _ _ HR.out).mono ?_; rintro e w2 ⟨rfl, hb2⟩; rw [hv]
    replace hk1 := keepc hb2 hk1
    replace hk2 := keepc hb2 hk2
    go_wp2_with fail
    refine (c_spec_l00In _ _ _ _).mono ?_; rintro e w3 ⟨rfl, rfl⟩; rw [HI1.out]
    go_wp2_with fail
    refine (c_spec_l00In _ _ _ _).mono ?_; rintro e w3 ⟨rfl, rfl⟩; rw [HI2.out]
    go_wp2_with fail
    refine (c_spec_l00Own xs _ _ (HR.out.below hb2) (by omega)).mono ?_; rintro e w4 ⟨u, rfl, ho, hb4⟩
    replace hk1 := keepc hb4 hk1
    replace hk2 := keepc hb4 hk2
    obtain ⟨b, cap, rfl, hcap⟩ := OwnI.some_of ho (by intro e; rw [e] at hk; simp at hk)
    have hgt := OwnI.gt ho b rfl
    have hzs := hb2.size
    have hnb : ¬ b = b1 := by omega
    have hnb2 : ¬ b1 = b := by omega
    obtain ⟨⟨ol1, hc1⟩, hf1⟩ := OwnI.at ho i hi
    have s1 := OwnI.store ho i (X + k - i)
    have s1' : OwnI 2 w2.heap.size (w4.setCell ⟨b, i, none⟩ (.int .i64 (X + k - i))) (.slice (some ⟨b, 0, none⟩) (xs.set i (X + k - i)).length cap) (xs.set i (X + k - i)) := by rw [List.length_set]; exact s1.1
    obtain ⟨⟨ol2, hc2⟩, hf2⟩ := OwnI.at s1' k (by rw [List.length_set]; omega)
    have s2 := OwnI.store s1' k (Y + i - k)
    have hin1 : (k : Int) < (xs.length : Int) := by omega
    have hin2 : (i : Int) < (xs.length : Int) := by omega
    have hin3 : (0 : Int) ≤ (k : Int) := by omega
    have hin4 : (0 : Int) ≤ (i : Int) := by omega
    obtain ⟨zs, hzs2⟩ : ∃ zs, (xs.set i (X + k - i)).set k (Y + i - k) = zs := ⟨_, rfl⟩
    have hzl : zs.length = xs.length := by rw [← hzs2]; simp
    have HO : Hid (OwnI 2 w2.heap.size ((w4.setCell ⟨b, i, none⟩ (.int .i64 (X + k - i))).setCell ⟨b, k, none⟩ (.int .i64 (Y + i - k))) (.slice (some ⟨b, 0, none⟩) xs.length cap) zs) := by
      have h := s2.1
      rw [List.length_set, hzs2] at h
      exact h
    have hk3 : (w4.setCell ⟨b, i, none⟩ (.int .i64 (X + k - i))).cell? ⟨b1, o1 + i, none⟩ = some (.int .i64 Y) := grown_c s1.2 hk2 (by simp only [ne_eq, Option.some.injEq]; omega)
    have BS : Below w.heap.size w ((w4.setCell ⟨b, i, none⟩ (.int .i64 (X + k - i))).setCell ⟨b, k, none⟩ (.int .i64 (Y + i - k))) := ((hb2.tr hb4).setCell (p := ⟨b, i, none⟩) (show w.heap.size ≤ b by omega) _).setCell (p := ⟨b, k, none⟩) (show w.heap.size ≤ b by omega) _
    have HZL := Lib.hid hzl
    clear s1 s1' s2 ho hzs2 hzl
    go_wp2_with fail
    generalize ((w4.setCell ⟨b, i, none⟩ (.int .i64 (X + k - i))).setCell ⟨b, k, none⟩ (.int .i64 (Y + i - k))) = w6 at *
    refine (c_spec_l03Checked zs _ _ HO.out.rd).mono ?_; rintro e w7 ⟨rfl, rfl⟩
    cases hok : okThrows zs
    · go_wp2
      go_ret2
      exact ⟨_, [], 2, rfl, ⟨OwnI.nil _ rfl, fun k hk => by simp [Value.ownBlock] at hk⟩, fun e => absurd e (by decide), BS⟩
    · go_wp2
      go_ret2
      exact ⟨_, zs, 0, rfl, HO.out.ir.wide hzs (Nat.le_refl _), fun _ => ⟨hok, HZL.out⟩, BS⟩
set_option maxHeartbeats 8000000 in
set_option maxRecDepth 100000 in
theorem c_spec_l19Pattern (W0 : World) (g k : Nat) (bs : List Int) (P : Int) (w : World) (h : Src W0 g bs k w) (hk : k < 600000) (hP : 0 ≤ P ∧ P ≤ 15) :
    Calls Tryz.prog 108 #[.pointer (some ⟨g, 0, none⟩), .int .i64 P] w fun e w' => ∃ (v : Value) (xs : List Int) (k' : Nat), e = .returned v ∧ OwnIR 2 w.heap.size w'.heap.size w' v xs ∧ (∀ x ∈ xs, 0 ≤ x ∧ x ≤ 15) ∧ (1 ≤ xs.length ∧ xs.length ≤ 12) ∧ k' ≤ k + 30 ∧ Src W0 g bs k' w' ∧ Upd g (g + 1) w w' := by
  have hgl := h.lt
  go_enter Tryz.func108, Tryz.ntmps108
  go_wp2_with fail
  refine (c_spec_l00Src_pick W0 g k bs 5 _ h (by omega) (by omega)).mono ?_; rintro e w1 ⟨x, k1, rfl, hx0, hx1, -, hk1, S1, U1⟩
  have hx := hx1 (by omega)
  clear hx1
  obtain ⟨N, rfl⟩ := Int.eq_ofNat_of_zero_le hx0
  have hg1 := S1.lt
  have hU1s := U1.size
  go_wp2
  go_loopw [6, 7] (fun out i wr => ∃ (j : Nat) (xs : List Int), j ≤ N + 1 ∧ i = .int .i64 j ∧ xs.length = j ∧ (∀ x ∈ xs, 0 ≤ x ∧ x ≤ 15) ∧ (∃ ad m cap, out = .slice (some ad) m cap) ∧ OwnI 2 w1.heap.size wr out xs ∧ Src W0 g bs k1 wr ∧ Upd g (g + 1) w wr) (fun _ i _ => N + 1 - (intOf i).toNat)
  case atStart => exact ⟨0, [], by omega, by go_num, rfl, by simp, ⟨_, _, _, rfl⟩, OwnI.made rfl rfl (Nat.le_refl _), S1.below ((Below.refl _ _).al _), U1.trans (Upd.of_below ((Below.refl _ _).al _))⟩
  case round =>
    obtain ⟨j, xs, hj, rfl, hxl, hxb, ⟨ad, m, cap, rfl⟩, hown, SR, UR⟩ := hrel
    have hlo := OwnI.gt hown
    obtain ⟨wo, rfl⟩ : ∃ wo : World, wo = wr := ⟨_, rfl⟩
    have hs1o : w1.heap.size ≤ wo.heap.size := by have h2 : ad.block < wo.heap.size := hown.ir.2 ad.block rfl; have h3 : w1.heap.size ≤ ad.block := hlo ad.block rfl; omega
    by_cases hlt : j < N + 1
    · go_wp2_with (at_builtin; refine push_int_at rfl _ _ _ _ rfl Tryz.underlying26 infoI w1.heap.size (.slice (some ad) m cap) xs P wo rfl rfl hown (by omega) hs1o ?_; intro v3 w3 ho3 hg3 hat3 hs3)
      go_roundw
      case rel => exact ⟨j + 1, xs ++ [P], by omega, by go_num, by simp [hxl], (fun y hy => by rcases List.mem_append.1 hy with hy | hy; exact hxb y hy; rw [List.mem_singleton.1 hy]; exact hP), (by obtain ⟨b3, cap4, e3, -⟩ := OwnI.some_of ho3 (by simp); exact ⟨_, _, _, e3⟩), ho3, SR.grown hg3 (fun n e => by have := hlo n e; omega), updFresh' UR hg3 (fun n e => by have := hlo n e; omega)⟩
      case measure => simp [intOf]; omega
    · have hjN : j = N + 1 := by omega
      subst hjN
      go_wp2_with fail
      refine (c_spec_l00Src_pick W0 g k1 bs 5 _ SR (by omega) (by omega)).mono ?_; rintro e w2 ⟨x2, k2, rfl, hy0, hy1, -, hk2, S2, U2⟩
      have hy := hy1 (by omega)
      clear hy1
      obtain ⟨C, rfl⟩ := Int.eq_ofNat_of_zero_le hy0
      have hown2 : OwnI 2 w1.heap.size w2 (.slice (some ad) m cap) xs := (hown.ir.upd U2 (Or.inr (by omega))).1
      have UX := UR.trans U2
      have hs12 : w1.heap.size ≤ w2.heap.size := by have := U2.size; omega
      clear hown SR UR hlo
      go_wp2
      go_loopw [6, 8] (fun out i wr => ∃ (j q : Nat) (ys : List Int), j ≤ C ∧ i = .int .i64 j ∧ ys.length = N + 1 ∧ (∀ x ∈ ys, 0 ≤ x ∧ x ≤ 15) ∧ (∃ ad m cap, out = .slice (some ad) m cap) ∧ OwnI 2 w1.heap.size wr out ys ∧ q + 4 * j ≤ k2 + 4 * C ∧ Src W0 g bs q wr ∧ Upd g (g + 1) w wr ∧ w1.heap.size ≤ wr.heap.size) (fun _ i _ => (intOf i).toNat)
      case atStart => exact ⟨C, k2, xs, by omega, by go_num, hxl, hxb, ⟨_, _, _, rfl⟩, hown2, by omega, S2, UX, hs12⟩
      case round =>
        obtain ⟨j, q, ys, hj, rfl, hyl, hyb, ⟨ad, m, cap, rfl⟩, hout, hq, SQ, UQ, hsQ⟩ := hrel
        obtain ⟨wq, rfl⟩ : ∃ wq : World, wq = wr := ⟨_, rfl⟩
        by_cases hj0 : 0 < j
        · go_wp2_with fail
          refine (c_spec_l00Src_pick W0 g q bs (1 + (N : Int)) _ SQ (by omega) (by omega)).mono ?_; rintro e w3 ⟨a, q3, rfl, ha0, ha1, -, hq3, S3, U3⟩
          have ha := ha1 (by omega)
          obtain ⟨A, rfl⟩ := Int.eq_ofNat_of_zero_le ha0
          go_wp2_with fail
          refine (c_spec_l00Src_pick W0 g q3 bs (1 + (N : Int)) _ S3 (by omega) (by omega)).mono ?_; rintro e w4 ⟨b, q4, rfl, hb0, hb1, -, hq4, S4, U4⟩
          have hb := hb1 (by omega)
          obtain ⟨B, rfl⟩ := Int.eq_ofNat_of_zero_le hb0
          clear ha1 hb1
          have UY := U3.trans U4
          have hs4 := UY.size
          have hout4 : OwnI 2 w1.heap.size w4 (.slice (some ad) m cap) ys := (hout.ir.upd UY (Or.inr (by omega))).1
          go_wp2_with fail
          refine (c_spec_SwapLandings ys A B _ _ hout4.rd (by omega) (by omega)).mono ?_; rintro e w5 ⟨r, zs, c, rfl, hor, hc, hb5⟩
          have S5 := S4.below hb5
          have U5 := (UQ.trans UY).trans (Upd.of_below (lo := g) (hi := g + 1) hb5)
          have hs5 := hb5.size
          have hout5 := hout4.below hb5
          clear hout hout4 S3 S4 SQ UQ
          by_cases hc0 : c = 0
          · subst hc0
            obtain ⟨hok, hzl⟩ := hc rfl
            have hzb := (okThrows_iff.1 hok).1
            go_wp2_with fail
            refine (c_spec_l02High zs _ _ hor.rd).mono ?_; rintro e w6 ⟨rfl, rfl⟩
            have hzne : zs ≠ [] := fun e => by rw [e] at hzl; simp at hzl; omega
            by_cases h8 : mxF 0 zs ≤ 8
            · go_wp2
              go_roundw
              case rel => exact ⟨j - 1, q4, zs, by omega, by rw [show ((j - 1 : Nat) : Int) = (j : Int) - 1 by omega], by omega, hzb, (by obtain ⟨b3, cap4, e3, -⟩ := OwnI.some_of hor.1 hzne; exact ⟨_, _, _, e3⟩), hor.1.base (by omega), by omega, S5, U5, by omega⟩
              case measure => simp [intOf]; omega
            · go_wp2
              go_roundw
              case rel => exact ⟨j - 1, q4, ys, by omega, by rw [show ((j - 1 : Nat) : Int) = (j : Int) - 1 by omega], hyl, hyb, ⟨_, _, _, rfl⟩, hout5, by omega, S5, U5, by omega⟩
              case measure => simp [intOf]; omega
          · have tc : (c == 0) = false := beq_eq_false_iff_ne.2 hc0
            go_wp2
            go_roundw
            case rel => exact ⟨j - 1, q4, ys, by omega, by rw [show ((j - 1 : Nat) : Int) = (j : Int) - 1 by omega], hyl, hyb, ⟨_, _, _, rfl⟩, hout5, by omega, S5, U5, by omega⟩
            case measure => simp [intOf]; omega
        · go_wp2
          go_ret
          exact ⟨_, ys, q, rfl, hout.ir.wide (by omega) (Nat.le_refl _), hyb, by omega, by omega, SQ, UQ⟩
end Go.Proofs.YtioemkdapoombaaGreatDoor
end
section
namespace Go.Proofs.YtioemkdapoombaaGreatDoor
open Go.ChangeShapes Go.WideShapes Go.ChangeAt Go.RowKit
set_option linter.unusedSimpArgs false
set_option linter.unusedVariables false
end Go.Proofs.YtioemkdapoombaaGreatDoor
end
