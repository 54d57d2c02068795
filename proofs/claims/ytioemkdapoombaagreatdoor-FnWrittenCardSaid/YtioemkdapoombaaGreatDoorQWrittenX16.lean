/- The law WrittenX: what it rests on, part 16 of 46. -/
import Derived.Test.YtioemkdapoombaaGreatDoorQWrittenX09
import Derived.Test.YtioemkdapoombaaGreatDoorQWrittenX15
section
set_option linter.unusedVariables false
namespace Go.Proofs.YtioemkdapoombaaGreatDoor
open Go.ChangeShapes Go.WideShapes Go.ChangeAt Go.RowKit
set_option linter.unusedSimpArgs false
theorem updFresh' {lo hi : Nat} {a b c : World} {r : Option Nat} (h : Upd lo hi a b) (hg : b.grownBy c r) (hn : ∀ n, r = some n → a.heap.size ≤ n) : Upd lo hi a c :=
  ⟨hg.os.trans h.os, hg.tape.trans h.tape, hg.output.trans h.output, Nat.le_trans h.size hg.size, fun k hk hl => (hg.block k (Nat.lt_of_lt_of_le hl h.size) (fun e => by have := hn k e.symm; omega)).trans (h.block k hk hl)⟩
theorem Src.grown {W0 a c : World} {g k : Nat} {bs : List Int} {r : Option Nat} (h : Src W0 g bs k a) (hg : a.grownBy c r) (hn : ∀ n, r = some n → g < n) : Src W0 g bs k c := by
  have hne : r ≠ some g := fun e => by have := hn g e; omega
  obtain ⟨h1, h2, ad, cap, seed, rr, c0, c1, c2, f1, f2, sb⟩ := h
  exact ⟨h1.grown hg h1.size (fun n e => by have := hn n e; omega), h2, ad, cap, seed, rr, grown_c hg c0 hne, grown_c hg c1 hne, grown_c hg c2 hne, grown_f hg c1 f1 hne, grown_f hg c2 f2 hne, sb⟩
theorem OwnI.gt {E : TypeId} {B : Nat} {w : World} {v : Value} {xs : List Int} (h : OwnI E B w v xs) : ∀ n, v.ownBlock = some n → B ≤ n := fun n e => (World.ownsRow.lt h n e).1
theorem c_spec_l00Src_one (W0 : World) (g k : Nat) (bs : List Int) (n : Int) (w : World) (h : Src W0 g bs k w) (hk : k < 1000000) (hn : n ≤ 100000) :
    Calls Tryz.prog 34 #[.pointer (some ⟨g, 0, none⟩), .int .i64 n] w fun e w' => ∃ (b : Bool) (k' : Nat), e = .returned (.bool b) ∧ k' ≤ k + 2 ∧ Src W0 g bs k' w' ∧ Upd g (g + 1) w w' := by
  go_enter Tryz.func34, Tryz.ntmps34
  go_wp2_with fail
  refine (c_spec_l00Src_pick W0 g k bs n _ h hk hn).mono ?_; rintro e w1 ⟨x, k1, rfl, -, -, -, hk1, S1, U1⟩
  go_wp2
  go_ret
  exact ⟨_, k1, rfl, hk1, S1, U1⟩
theorem c_spec_l00Src_among (W0 : World) (g k : Nat) (bs : List Int) (xs : List Int) (v : Value) (w : World) (h : Src W0 g bs k w) (hr : RdI w v xs) (hk : k < 1000000) (hn : 1 ≤ xs.length ∧ xs.length ≤ 100000) (hfar : ∀ b, v.ownBlock = some b → b ≠ g) :
    Calls Tryz.prog 68 #[.pointer (some ⟨g, 0, none⟩), v] w fun e w' => ∃ (x : Int) (k' : Nat), e = .returned (.int .i64 x) ∧ x ∈ xs ∧ k' ≤ k + 2 ∧ Src W0 g bs k' w' ∧ Upd g (g + 1) w w' := by
  obtain ⟨a, cap, rfl, hl, hc⟩ := hr
  have HC := Lib.hid hc
  clear hc
  go_enter Tryz.func68, Tryz.ntmps68
  go_wp2_with fail
  refine (c_spec_l00Src_pick W0 g k bs (xs.length : Int) _ h hk (by omega)).mono ?_; rintro e w1 ⟨x, k1, rfl, hx0, hx1, -, hk1, S1, U1⟩
  have hx := hx1 (by omega)
  clear hx1
  obtain ⟨X, rfl⟩ := Int.eq_ofNat_of_zero_le hx0
  obtain ⟨b, off, rfl, hcell⟩ := HC.out X (by omega)
  have hb := hfar b rfl
  have hcell := (U1.cell b (off + X) (by omega) (World.block_lt_of_cell? _ _ hcell)).trans hcell
  go_wp2
  go_ret
  exact ⟨_, k1, rfl, getD_mem' (by omega), hk1, S1, U1⟩
set_option maxHeartbeats 8000000 in
set_option maxRecDepth 100000 in
theorem c_spec_l02Draw (W0 : World) (g k : Nat) (bs : List Int) (most : Int) (w : World) (h : Src W0 g bs k w) (hk : k < 600000) (hm : 1 ≤ most ∧ most ≤ 12) :
    Calls Tryz.prog 109 #[.pointer (some ⟨g, 0, none⟩), .int .i64 most] w fun e w' => ∃ (v : Value) (xs : List Int) (k' : Nat), e = .returned v ∧ OwnIR 2 w.heap.size w'.heap.size w' v xs ∧ (1 ≤ xs.length ∧ xs.length ≤ 12) ∧ (∀ x ∈ xs, 0 ≤ x ∧ x ≤ 30) ∧ k' ≤ k + 2000 ∧ Src W0 g bs k' w' ∧ Upd g (g + 1) w w' := by
  have hgl := h.lt
  go_enter Tryz.func109, Tryz.ntmps109
  go_wp2_with fail
  refine (c_spec_l00Src_pick W0 g k bs most _ h (by omega) (by omega)).mono ?_; rintro e w1 ⟨x, k1, rfl, hx0, hx1, -, hk1, S1, U1⟩
  have hx := hx1 (by omega)
  clear hx1
  obtain ⟨N, rfl⟩ := Int.eq_ofNat_of_zero_le hx0
  have hg1 := S1.lt
  have hU1s := U1.size
  go_wp2
  go_loopw [6, 7] (fun land i wr => ∃ (k : Nat) (xs : List Int) (q : Nat), k ≤ N + 1 ∧ i = .int .i64 k ∧ xs.length = k ∧ (∀ x ∈ xs, 0 ≤ x ∧ x ≤ 12) ∧ (∃ ad m cap, land = .slice (some ad) m cap) ∧ OwnI 2 w1.heap.size wr land xs ∧ q ≤ k1 + 2 * k ∧ Src W0 g bs q wr ∧ Upd g (g + 1) w wr) (fun _ i _ => N + 1 - (intOf i).toNat)
  case atStart => exact ⟨0, [], k1, by omega, by go_num, rfl, by simp, ⟨_, _, _, rfl⟩, OwnI.made rfl rfl (Nat.le_refl _), by omega, S1.below ((Below.refl _ _).al _), U1.trans (Upd.of_below ((Below.refl _ _).al _))⟩
  case round =>
    obtain ⟨k, xs, q, hk, rfl, hxl, hxb, ⟨ad, m, cap, rfl⟩, hown, hq, SR, UR⟩ := hrel
    by_cases hlt : k < N + 1
    · go_wp2_with fail
      refine (c_spec_l00Src_pick W0 g q bs ((k : Int) + 1) _ SR (by omega) (by omega)).mono ?_; rintro e w2 ⟨y, q2, rfl, hy0, hy1, -, hq2, S2, U2⟩
      have hy := hy1 (by omega)
      clear hy1
      obtain ⟨Y, rfl⟩ := Int.eq_ofNat_of_zero_le hy0
      have hlo := OwnI.gt hown
      have hown2 : OwnI 2 w1.heap.size w2 (.slice (some ad) m cap) xs := (hown.ir.upd U2 (Or.inr (by omega))).1
      have hs12 : w1.heap.size ≤ w2.heap.size := by have h1 := U2.size; have h2 : ad.block < wr.heap.size := hown.ir.2 ad.block rfl; have h3 : w1.heap.size ≤ ad.block := hlo ad.block rfl; omega
      go_wp2_with (at_builtin; refine push_int_at rfl _ _ _ _ rfl Tryz.underlying26 infoI w1.heap.size (.slice (some ad) m cap) xs (k : Int) w2 rfl rfl hown2 (by omega) hs12 ?_; intro v3 w3 ho3 hg3 hat3 hs3; refine stop_of ?_)
      unfold Stopped
      have S3 := S2.grown hg3 (fun n e => by have := hlo n e; omega)
      have U3 := updFresh' (UR.trans U2) hg3 (fun n e => by have := hlo n e; have := U1.size; omega)
      obtain ⟨b, cap3, rfl, hcap3⟩ := OwnI.some_of ho3 (by simp)
      have hbg := OwnI.gt ho3 b rfl
      obtain ⟨zs, hzs⟩ : ∃ zs, xs ++ [(k : Int)] = zs := ⟨_, rfl⟩
      have hzl : zs.length = k + 1 := by rw [← hzs]; simp [hxl]
      have hzb : ∀ x ∈ zs, 0 ≤ x ∧ x ≤ 12 := fun x hx => by
        rw [← hzs, List.mem_append] at hx
        rcases hx with hx | hx
        · exact hxb x hx
        · rw [List.mem_singleton.1 hx]; omega
      rw [hzs] at ho3 hcap3 ⊢
      have hc1 := OwnI.cell ho3 Y (by omega)
      have hc2 := OwnI.cell ho3 k (by omega)
      have hzY := hzb _ (getD_mem' (L := zs) (k := Y) (by omega))
      obtain ⟨z, hz⟩ : ∃ z, zs.getD Y 0 = z := ⟨_, rfl⟩
      rw [hz] at hc1 hzY
      obtain ⟨hc1, hf1⟩ := hc1
      obtain ⟨hc2, hf2⟩ := hc2
      have s1 := OwnI.store ho3 k z
      have s1' : OwnI 2 w1.heap.size (w3.setCell ⟨b, k, none⟩ (.int .i64 z)) (.slice (some ⟨b, 0, none⟩) (zs.set k z).length cap3) (zs.set k z) := by rw [List.length_set]; exact s1.1
      obtain ⟨⟨old, hc3⟩, hf3⟩ := OwnI.at s1' Y (by rw [List.length_set]; omega)
      have s2 := OwnI.store s1' Y (k : Int)
      have hin1 : (Y : Int) < (zs.length : Int) := by omega
      have hin2 : (k : Int) < (zs.length : Int) := by omega
      have hin3 : (0 : Int) ≤ (Y : Int) := by omega
      have hin4 : (0 : Int) ≤ (k : Int) := by omega
      have S5 := Lib.hid ((S3.grown s1.2 (fun n e => by simp only [Option.some.injEq] at e; have := S1.lt; omega)).grown s2.2 (fun n e => by simp only [Option.some.injEq] at e; have := S1.lt; omega))
      have U5 := Lib.hid (updFresh' (updFresh' U3 s1.2 (fun n e => by simp only [Option.some.injEq] at e; have := U1.size; omega)) s2.2 (fun n e => by simp only [Option.some.injEq] at e; have := U1.size; omega))
      have O5 : Hid (OwnI 2 w1.heap.size ((w3.setCell ⟨b, k, none⟩ (.int .i64 z)).setCell ⟨b, Y, none⟩ (.int .i64 (k : Int))) (.slice (some ⟨b, 0, none⟩) zs.length cap3) ((zs.set k z).set Y (k : Int))) := by have h := s2.1; rw [List.length_set] at h; exact h
      have hbb : ∀ x ∈ (zs.set k z).set Y (k : Int), 0 ≤ x ∧ x ≤ 12 := fun x hx => by
        rcases List.mem_or_eq_of_mem_set hx with hx | rfl
        · rcases List.mem_or_eq_of_mem_set hx with hx | rfl
          · exact hzb x hx
          · exact hzY
        · omega
      clear s1 s1' s2 ho3 hown2 hown
      go_wp2
      go_roundw
      case rel => exact ⟨k + 1, _, q2, by omega, by go_num, by simp [hzl], hbb, ⟨_, _, _, rfl⟩, O5.out, by omega, S5.out, U5.out⟩
      case measure => simp [intOf]; omega
    · obtain rfl : k = N + 1 := by omega
      obtain ⟨wA, rfl⟩ : ∃ wA : World, wA = wr := ⟨_, rfl⟩
      have hlo := OwnI.gt hown
      obtain ⟨b, capL, he, -⟩ := OwnI.some_of hown (by intro e; rw [e] at hxl; simp at hxl)
      cases he
      have hbg := hlo b rfl
      have hgA := SR.lt
      have hsA := UR.size
      have HCL : Hid (∀ j, j < N + 1 → ∃ z, wA.cell? ⟨b, j, none⟩ = some (.int .i64 z) ∧ 0 ≤ z ∧ z ≤ 12) := fun j hj => ⟨_, (OwnI.cell hown j (by omega)).1, hxb _ (getD_mem' (by omega))⟩
      rw [hxl, show ((N + 1 : Nat) : Int) = (N : Int) + 1 by omega]
      go_wp2
      go_loopw [9, 10] (fun out i wr => ∃ (k : Nat) (ys : List Int) (q3 : Nat), k ≤ N + 1 ∧ i = .int .i64 k ∧ ys.length = k ∧ (∀ y ∈ ys, 0 ≤ y ∧ y ≤ 30) ∧ (∃ ad m cap, out = .slice (some ad) m cap) ∧ OwnI 2 wA.heap.size wr out ys ∧ q3 ≤ q + 100 * k ∧ Src W0 g bs q3 wr ∧ Upd g (g + 1) wA wr) (fun _ i _ => N + 1 - (intOf i).toNat)
      case atStart => exact ⟨0, [], q, by omega, by go_num, rfl, by simp, ⟨_, _, _, rfl⟩, OwnI.made rfl rfl (Nat.le_refl _), by omega, SR.below ((Below.refl _ _).al _), Upd.of_below ((Below.refl _ _).al _)⟩
      case round =>
        obtain ⟨k, ys, q3, hk, rfl, hyl, hyb, ⟨ad, m, cap, rfl⟩, hout, hq3, SQ, UQ⟩ := hrel
        obtain ⟨wO, rfl⟩ : ∃ wO : World, wO = wr := ⟨_, rfl⟩
        have hUQs := UQ.size
        by_cases hlt : k < N + 1
        · obtain ⟨z, hcz, hz0, hz1⟩ := HCL.out k hlt
          have hcz := (UQ.cell b k (Or.inr (by omega)) (World.block_lt_of_cell? _ _ hcz)).trans hcz
          have hin1 : (k : Int) < (N : Int) + 1 := by omega
          have hin2 : (k : Int) < ((N + 1 : Nat) : Int) := by omega
          have hin0 : (0 : Int) ≤ (k : Int) := by omega
          have hm0 := Int.emod_nonneg (z - (k : Int)) (show (1 + (N : Int)) ≠ 0 by omega)
          have hm1 := Int.emod_lt_of_pos (z - (k : Int)) (show (0 : Int) < 1 + (N : Int) by omega)
          go_wp2_with fail
          refine (c_spec_l02Mod (z - (k : Int)) (1 + (N : Int)) _ (by omega) (by omega)).mono ?_; rintro e wm ⟨rfl, rfl⟩
          obtain ⟨T0, hT0⟩ : ∃ T0, (z - (k : Int)) % (1 + (N : Int)) = T0 := ⟨_, rfl⟩
          rw [hT0] at hm0 hm1 ⊢
          have hlo2 := OwnI.gt hout
          go_wp2
          go_loopw [11] (fun t wz => ∃ (T : Int) (q4 : Nat), t = .int .i64 T ∧ 0 ≤ T ∧ T ≤ 30 ∧ (q4 : Int) ≤ q3 + 2 * T ∧ Src W0 g bs q4 wz ∧ Upd g (g + 1) wO wz) (fun t _ => 40 - (intOf t).toNat)
          case atStart => exact ⟨T0, q3, rfl, by omega, by omega, by omega, SQ, Upd.of_below (Below.refl _ _)⟩
          case round =>
            obtain ⟨T, q4, rfl, hT0', hT1', hq4, SZ, UZ⟩ := hrel
            have hUZs := UZ.size
            have hout4 : OwnI 2 wA.heap.size wr (.slice (some ad) m cap) ys := (hout.ir.upd UZ (Or.inr (by omega))).1
            by_cases hb : T + (1 + (N : Int)) ≤ 9
            · have tb : decide (T + (1 + (N : Int)) ≤ 9) = true := by simpa using hb
              go_wp2_with fail
              refine (c_spec_l00Src_one W0 g q4 bs 2 _ SZ (by omega) (by omega)).mono ?_; rintro e w5 ⟨c, q5, rfl, hq5, S5, U5⟩
              cases c
              · have hU5s := U5.size
                have hout5 : OwnI 2 wA.heap.size w5 (.slice (some ad) m cap) ys := (hout4.ir.upd U5 (Or.inr (by omega))).1
                go_wp2_with (at_builtin; refine push_int_at rfl _ _ _ _ rfl Tryz.underlying26 infoI wA.heap.size (.slice (some ad) m cap) ys T w5 rfl rfl hout5 (by omega) (by omega) ?_; intro v3 w3 ho3 hg3 hat3 hs3)
                go_roundw
                case rel => exact ⟨k + 1, ys ++ [T], q5, by omega, by go_num, by simp [hyl], (fun y hy => by rcases List.mem_append.1 hy with hy | hy; exact hyb y hy; rw [List.mem_singleton.1 hy]; omega), (by obtain ⟨b3, cap4, e3, -⟩ := OwnI.some_of ho3 (by simp); exact ⟨_, _, _, e3⟩), ho3, by omega, S5.grown hg3 (fun n e => by have := hlo2 n e; omega), updFresh' ((UQ.trans UZ).trans U5) hg3 (fun n e => hlo2 n e)⟩
                case measure => simp [intOf]; omega
              · go_wp2
                go_roundw
                case rel => exact ⟨T + (1 + (N : Int)), q5, rfl, by omega, by omega, by omega, S5, UZ.trans U5⟩
                case measure => simp [intOf]; omega
            · have tb : decide (T + (1 + (N : Int)) ≤ 9) = false := by simpa using hb
              go_wp2_with (at_builtin; refine push_int_at rfl _ _ _ _ rfl Tryz.underlying26 infoI wA.heap.size (.slice (some ad) m cap) ys T wr rfl rfl hout4 (by omega) (by omega) ?_; intro v3 w3 ho3 hg3 hat3 hs3)
              go_roundw
              case rel => exact ⟨k + 1, ys ++ [T], q4, by omega, by go_num, by simp [hyl], (fun y hy => by rcases List.mem_append.1 hy with hy | hy; exact hyb y hy; rw [List.mem_singleton.1 hy]; omega), (by obtain ⟨b3, cap4, e3, -⟩ := OwnI.some_of ho3 (by simp); exact ⟨_, _, _, e3⟩), ho3, by omega, SZ.grown hg3 (fun n e => by have := hlo2 n e; omega), updFresh' (UQ.trans UZ) hg3 (fun n e => hlo2 n e)⟩
              case measure => simp [intOf]; omega
        · obtain rfl : k = N + 1 := by omega
          go_wp2
          go_ret
          exact ⟨_, ys, q3, rfl, hout.ir.wide (by omega) (Nat.le_refl _), by omega, hyb, by omega, SQ, UR.trans UQ⟩
end Go.Proofs.YtioemkdapoombaaGreatDoor
end
section
set_option linter.unusedVariables false
namespace Go.Proofs.YtioemkdapoombaaGreatDoor
open Go.ChangeShapes Go.WideShapes Go.ChangeAt Go.RowKit
set_option linter.unusedSimpArgs false
def lenW : Value → Nat
  | .slice _ n _ => n
  | _ => 0
theorem rd4 (w : World) (a b c d : Int) : RdI (w.alloc (Obj.cells #[.int .i64 a, .int .i64 b, .int .i64 c, .int .i64 d] 2)) (.slice (some ⟨w.heap.size, 0, none⟩) 4 4) [a, b, c, d] := by
  refine ⟨_, _, rfl, by simp, fun k hk => ⟨w.heap.size, 0, rfl, ?_⟩⟩
  have hk' : k < 4 := by simpa using hk
  have : k = 0 ∨ k = 1 ∨ k = 2 ∨ k = 3 := by omega
  rcases this with rfl | rfl | rfl | rfl <;> exact World.cell?_alloc_at _ _ _ _ rfl
set_option maxHeartbeats 8000000 in
set_option maxRecDepth 100000 in
theorem c_spec_l02Bent (W0 : World) (g k : Nat) (bs : List Int) (w : World) (h : Src W0 g bs k w) (hk : k < 590000) :
    Calls Tryz.prog 77 #[.pointer (some ⟨g, 0, none⟩)] w fun e w' => ∃ (v : Value) (xs : List Int) (k' : Nat), e = .returned v ∧ OwnIR 2 w.heap.size w'.heap.size w' v xs ∧ xs.length ≤ 13 ∧ (∀ x ∈ xs, -1 ≤ x ∧ x ≤ 31) ∧ k' ≤ k + 3000 ∧ Src W0 g bs k' w' ∧ Upd g (g + 1) w w' := by
  have hgl := h.lt
  have HH := Lib.hid h
  go_enter Tryz.func77, Tryz.ntmps77
  go_wp2_with fail
  refine (c_spec_l02Draw W0 g k bs 7 _ HH.out (by omega) (by omega)).mono ?_; rintro e w1 ⟨v, xs, k1, rfl, ho, hl, hb, hk1, S1, U1⟩
  obtain ⟨b, cap, rfl, hcap⟩ := OwnI.some_of ho.1 (by intro e; rw [e] at hl; simp at hl)
  have hbl := OwnI.gt ho.1 b rfl
  have hbh := ho.2 b rfl
  have hs1 := U1.size
  go_wp2_with fail
  refine (c_spec_l00Src_pick W0 g k1 bs (xs.length : Int) _ S1 (by omega) (by omega)).mono ?_; rintro e w2 ⟨y, k2, rfl, hy0, hy1, -, hk2, S2, U2⟩
  have hy := hy1 (by omega)
  clear hy1
  obtain ⟨Y, rfl⟩ := Int.eq_ofNat_of_zero_le hy0
  have hs2 := U2.size
  go_wp2_with fail
  refine (c_spec_l00Src_pick W0 g k2 bs 14 _ S2 (by omega) (by omega)).mono ?_; rintro e w3 ⟨z, k3, rfl, hz0, hz1, -, hk3, S3, U3⟩
  clear hz1
  have hs3 := U3.size
  have ho3 := (ho.upd U2 (Or.inr (by omega))).upd U3 (Or.inr (by omega))
  have UA := (U1.trans U2).trans U3
  have hin1 : (Y : Int) < (xs.length : Int) := by omega
  have hin0 : (0 : Int) ≤ (Y : Int) := by omega
  have hset : ∀ u : Int, -1 ≤ u → u ≤ 31 → ∀ x ∈ xs.set Y u, -1 ≤ x ∧ x ≤ 31 := fun u h1 h2 x hx => by
    rcases List.mem_or_eq_of_mem_set hx with hx | rfl
    · have := hb x hx; omega
    · exact ⟨h1, h2⟩
  have t0 : ((0 : Int) == 0) = true := by decide
  have hc := OwnI.cell ho3.1 Y (by omega)
  have hpb := hb _ (getD_mem' (L := xs) (k := Y) (by omega))
  obtain ⟨P, hP⟩ : ∃ P, xs.getD Y 0 = P := ⟨_, rfl⟩
  rw [hP] at hc hpb
  obtain ⟨hcY, hfY⟩ := hc
  by_cases h0 : z = 0
  · subst h0
    go_wp2_with fail
    refine (c_spec_l00Src_among W0 g k3 bs [-1, 15, 16, P + 1] _ _ (S3.below ((Below.refl _ _).al _)) (rd4 _ _ _ _ _) (by omega) (by simp) (fun n e => by simp only [Value.ownBlock, Option.some.injEq] at e; omega)).mono ?_; rintro e w4 ⟨x, k4, rfl, hx, hk4, S4, U4⟩
    have hxb : -1 ≤ x ∧ x ≤ 31 := by
      simp only [List.mem_cons, List.not_mem_nil, or_false] at hx
      omega
    have hs4 := U4.size
    have ho4 := (ho3.al (Obj.cells #[.int .i64 (-1), .int .i64 15, .int .i64 16, .int .i64 (P + 1)] 2)).upd U4 (Or.inr (by omega))
    obtain ⟨⟨old, hco⟩, hfo⟩ := OwnI.at ho4.1 Y (by omega)
    have s1 := OwnI.store ho4.1 Y x
    have S5 := Lib.hid (S4.grown s1.2 (fun n e => by simp only [Option.some.injEq] at e; omega))
    have U5 := Lib.hid (updFresh' ((UA.trans (Upd.of_below ((Below.refl _ _).al (Obj.cells #[.int .i64 (-1), .int .i64 15, .int .i64 16, .int .i64 (P + 1)] 2)))).trans U4) s1.2 (fun n e => by simp only [Option.some.injEq] at e; omega))
    have O5 := Lib.hid s1.1.ir
    clear s1 hcY hfY
    go_wp2
    go_ret
    exact ⟨_, xs.set Y x, k4, rfl, O5.out, by rw [List.length_set]; omega, hset x hxb.1 hxb.2, by omega, S5.out, U5.out⟩
  · have t1 : (z == 0) = false := beq_eq_false_iff_ne.2 h0
    by_cases h1 : z = 1
    · subst h1
      go_wp2_with fail
      refine (c_spec_l00Src_pick W0 g k3 bs 10 _ S3 (by omega) (by omega)).mono ?_; rintro e w4 ⟨x, k4, rfl, hx0, hx1, -, hk4, S4, U4⟩
      have hx := hx1 (by omega)
      clear hx1
      have hs4 := U4.size
      have ho4 := ho3.upd U4 (Or.inr (by omega))
      obtain ⟨⟨old, hco⟩, hfo⟩ := OwnI.at ho4.1 Y (by omega)
      have s1 := OwnI.store ho4.1 Y x
      have S5 := Lib.hid (S4.grown s1.2 (fun n e => by simp only [Option.some.injEq] at e; omega))
      have U5 := Lib.hid (updFresh' (UA.trans U4) s1.2 (fun n e => by simp only [Option.some.injEq] at e; omega))
      have O5 := Lib.hid s1.1.ir
      clear s1 hcY hfY
      go_wp2
      go_ret
      exact ⟨_, xs.set Y x, k4, rfl, O5.out, by rw [List.length_set]; omega, hset x (by omega) (by omega), by omega, S5.out, U5.out⟩
    · have t2 : (z == 1) = false := beq_eq_false_iff_ne.2 h1
      by_cases h2 : z = 2
      · subst h2
        go_wp2
        go_ret
        exact ⟨_, [], k3, rfl, (OwnI.made (B := w.heap.size) rfl rfl (by omega)).ir, by simp, by simp, by omega, S3.below ((Below.refl _ _).al _), UA.trans (Upd.of_below ((Below.refl _ _).al _))⟩
      · have t3 : (z == 2) = false := beq_eq_false_iff_ne.2 h2
        by_cases h3 : z = 3
        · subst h3
          go_wp2_with fail
          refine (c_spec_l00Src_pick W0 g k3 bs 2 _ (S3.below ((Below.refl _ _).al _)) (by omega) (by omega)).mono ?_; rintro e w4 ⟨x, k4, rfl, hx0, hx1, -, hk4, S4, U4⟩
          have hx := hx1 (by omega)
          clear hx1
          obtain ⟨X, rfl⟩ := Int.eq_ofNat_of_zero_le hx0
          have hs4 := U4.size
          have hs4' : w3.heap.size < w4.heap.size := by have : (w3.alloc (Obj.cells #[] 2)).heap.size = w3.heap.size + 1 := World.size_alloc _ _; omega
          have O4 : OwnI 2 w.heap.size w4 (.slice (some ⟨w3.heap.size, 0, none⟩) 0 0) [] := ((OwnI.made (xs := ([] : List Int)) rfl rfl (show w.heap.size ≤ w3.heap.size by omega)).ir.upd U4 (Or.inr (by omega))).1
          have U44 := (UA.trans (Upd.of_below ((Below.refl _ _).al (Obj.cells #[] 2)))).trans U4
          go_wp2
          go_loopw [3] (fun p wr => ∃ ys : List Int, (∀ y ∈ ys, -1 ≤ y ∧ y ≤ 31) ∧ ys.length ≤ 12 + X ∧ (∃ ad cap, p = .slice (some ad) ys.length cap) ∧ OwnI 2 w.heap.size wr p ys ∧ Src W0 g bs k4 wr ∧ Upd g (g + 1) w wr) (fun p _ => 14 - lenW p)
          case atStart => exact ⟨[], by simp, by simp, ⟨_, _, rfl⟩, O4, S4, U44⟩
          case round =>
            obtain ⟨ys, hyb, hyl, ⟨ad, cap5, rfl⟩, hown, SR, UR⟩ := hrel
            have hlo := OwnI.gt hown
            have hUs := UR.size
            by_cases hlt : ys.length < 12 + X
            · have tl : decide ((ys.length : Int) < 12 + (X : Int)) = true := by simp; omega
              go_wp2_with (at_builtin; refine push_int_at rfl _ _ _ _ rfl Tryz.underlying26 infoI w.heap.size (.slice (some ad) ys.length cap5) ys 3 wr rfl rfl hown (by omega) hUs ?_; intro v6 w6 ho6 hg6 hat6 hs6)
              go_roundw
              case rel => exact ⟨ys ++ [3], (fun y hy => by rcases List.mem_append.1 hy with hy | hy; exact hyb y hy; rw [List.mem_singleton.1 hy]; omega), by simp; omega, (by obtain ⟨b3, cap4, e3, -⟩ := OwnI.some_of ho6 (by simp); exact ⟨_, _, e3⟩), ho6, SR.grown hg6 (fun n e => by have := hlo n e; omega), updFresh' UR hg6 hlo⟩
              case measure =>
                obtain ⟨b3, cap4, e3, -⟩ := OwnI.some_of ho6 (by simp)
                rw [e3]
                simp [lenW]; omega
            · have tl : decide ((ys.length : Int) < 12 + (X : Int)) = false := by simp; omega
              go_wp2
              go_ret
              exact ⟨_, ys, k4, rfl, hown.ir, by omega, hyb, by omega, SR, UR⟩
        · have t4 : (z == 3) = false := beq_eq_false_iff_ne.2 h3
          go_wp2
          go_ret
          exact ⟨_, xs, k3, rfl, ho3.wide (Nat.le_refl _) (by omega), by omega, fun x hx => by have := hb x hx; omega, by omega, S3, UA⟩
/-- the number of a digit of a throw -/
def digC (c : Int) : Int := if 48 ≤ c ∧ c ≤ 57 then c - 48 else if 97 ≤ c ∧ c ≤ 102 then c - 87 else -1
theorem digC_bd (c : Int) : -1 ≤ digC c ∧ digC c ≤ 15 := by
  unfold digC
  split
  · omega
  · split <;> omega
def chr (s : ByteArray) (i : Nat) : Int := ((s.get! i).toNat : Int)
theorem chr_bd (s : ByteArray) (i : Nat) : 0 ≤ chr s i ∧ chr s i ≤ 255 := by
  have := (s.get! i).toNat_lt
  unfold chr
  omega
theorem chr_at {s : ByteArray} {i : Nat} (h : i < s.size) : ((s[i].toNat : Nat) : Int) = chr s i := by
  unfold chr
  congr 2
  simp [ByteArray.get!, h]
  rfl
def digsTo (s : ByteArray) (k : Nat) : List Int := (List.range k).map fun i => digC (chr s i)
theorem digsTo_succ (s : ByteArray) (k : Nat) : digsTo s (k + 1) = digsTo s k ++ [digC (chr s k)] := by simp [digsTo, List.range_succ]
theorem digsTo_len (s : ByteArray) (k : Nat) : (digsTo s k).length = k := by simp [digsTo]
theorem digsTo_bd (s : ByteArray) (k : Nat) : ∀ x ∈ digsTo s k, -1 ≤ x ∧ x ≤ 15 := fun x hx => by
  simp only [digsTo, List.mem_map] at hx
  obtain ⟨i, -, rfl⟩ := hx
  exact digC_bd _
end Go.Proofs.YtioemkdapoombaaGreatDoor
end
section
set_option linter.unusedVariables false
namespace Go.Proofs.YtioemkdapoombaaGreatDoor
open Go.ChangeShapes Go.WideShapes Go.ChangeAt Go.RowKit
set_option linter.unusedSimpArgs false
end Go.Proofs.YtioemkdapoombaaGreatDoor
end
section
set_option linter.unusedVariables false
namespace Go.Proofs.YtioemkdapoombaaGreatDoor
open Go.ChangeShapes Go.WideShapes Go.ChangeAt Go.RowKit
set_option linter.unusedSimpArgs false
end Go.Proofs.YtioemkdapoombaaGreatDoor
end
