/- The draws of the laws, further: patterns with their heights, pairs of patterns. -/
import Derived.Test.YtpcaaohdlcoplaaDrQ
namespace Go.Proofs.Ytpcaaohdlcoplaa
open Go.ChangeShapes Go.WideShapes Go.ChangeAt Go.RowKit
set_option linter.unusedVariables false
set_option linter.unusedSimpArgs false
def drT : List ByteArray := [⟨#[51]⟩, ⟨#[53, 51, 49]⟩, ⟨#[52, 52, 49]⟩, ⟨#[53, 49]⟩, ⟨#[52, 50, 51]⟩, ⟨#[52, 50]⟩, ⟨#[51, 49, 50]⟩, ⟨#[52]⟩, ⟨#[53, 51]⟩, ⟨#[52, 48]⟩, ⟨#[50]⟩, ⟨#[53, 48, 49]⟩, ⟨#[54, 48]⟩, ⟨#[51, 51, 48]⟩]
theorem drT_bd : ∀ i, i < 14 → 1 ≤ (drT.getD i ByteArray.empty).size ∧ (drT.getD i ByteArray.empty).size ≤ 3 := by decide
theorem drT_new (w : World) : ∀ i, i < 14 → (w.alloc (Obj.cells #[Value.string { data := #[51] }, Value.string { data := #[53, 51, 49] }, Value.string { data := #[52, 52, 49] }, Value.string { data := #[53, 49] }, Value.string { data := #[52, 50, 51] }, Value.string { data := #[52, 50] }, Value.string { data := #[51, 49, 50] }, Value.string { data := #[52] }, Value.string { data := #[53, 51] }, Value.string { data := #[52, 48] }, Value.string { data := #[50] }, Value.string { data := #[53, 48, 49] }, Value.string { data := #[54, 48] }, Value.string { data := #[51, 51, 48] }] 9)).cell? ⟨w.heap.size, i, none⟩ = some (.string (drT.getD i ByteArray.empty)) := by
  intro i hi
  have : i = 0 ∨ i = 1 ∨ i = 2 ∨ i = 3 ∨ i = 4 ∨ i = 5 ∨ i = 6 ∨ i = 7 ∨ i = 8 ∨ i = 9 ∨ i = 10 ∨ i = 11 ∨ i = 12 ∨ i = 13 := by omega
  rcases this with rfl | rfl | rfl | rfl | rfl | rfl | rfl | rfl | rfl | rfl | rfl | rfl | rfl | rfl <;> exact World.cell?_alloc_at _ _ _ _ rfl
set_option maxHeartbeats 8000000 in
set_option maxRecDepth 100000 in
theorem c_spec_l10Draw (W0 : World) (g k : Nat) (bs : List Int) (w : World) (h : Src W0 g bs k w) (hk : k < 580000) :
    Calls Try.prog 81 #[.pointer (some ⟨g, 0, none⟩)] w fun e w' => ∃ (v : Value) (xs : List Int) (k' : Nat), e = .returned v ∧ OwnIR 2 w.heap.size w'.heap.size w' v xs ∧ xs.length ≤ 13 ∧ (∀ x ∈ xs, -1 ≤ x ∧ x ≤ 31) ∧ k' ≤ k + 3010 ∧ Src W0 g bs k' w' ∧ Upd g (g + 1) w w' := by
  have hgl := h.lt
  have HH := Lib.hid h
  go_enter Try.func81, Try.ntmps81
  go_wp2_with fail
  refine (c_spec_l00Src_one W0 g k bs 12 _ HH.out (by omega) (by omega)).mono ?_; rintro e w0 ⟨c0, k0, rfl, hk0, S0, U0⟩
  have hs0 := U0.size
  cases c0
  rotate_left
  · go_wp2_with fail
    refine (c_spec_l02Bent W0 g k0 bs _ S0 (by omega)).mono ?_; rintro e w1 ⟨v, xs, k1, rfl, ho, hl, hb, hk1, S1, U1⟩
    go_wp2
    go_ret
    exact ⟨v, xs, k1, rfl, ho.wide (by omega) (Nat.le_refl _), hl, hb, by omega, S1, U0.trans U1⟩
  go_wp2_with fail
  refine (c_spec_l00Src_one W0 g k0 bs 3 _ S0 (by omega) (by omega)).mono ?_; rintro e wb ⟨c1, kb, rfl, hkb, Sb, Ub⟩
  have hsb := Ub.size
  cases c1
  rotate_left
  · have HT := Lib.hid (drT_new wb)
    go_wp2_with fail
    refine (c_spec_l00Src_text W0 g kb bs wb.heap.size 14 (fun i => drT.getD i ByteArray.empty) _ (Sb.below ((Below.refl _ _).al _)) (by omega) (by omega) (by have := Sb.lt; omega) HT).mono ?_; rintro e w1 ⟨i, k1, hi, rfl, hk1, S1, U1⟩
    have hsz := drT_bd i hi
    obtain ⟨s, hs⟩ : ∃ s, drT.getD i ByteArray.empty = s := ⟨_, rfl⟩
    have hs1 := U1.size
    have hs1' : wb.heap.size < w1.heap.size := by have h1 := World.size_alloc wb (Obj.cells #[Value.string { data := #[51] }, Value.string { data := #[53, 51, 49] }, Value.string { data := #[52, 52, 49] }, Value.string { data := #[53, 49] }, Value.string { data := #[52, 50, 51] }, Value.string { data := #[52, 50] }, Value.string { data := #[51, 49, 50] }, Value.string { data := #[52] }, Value.string { data := #[53, 51] }, Value.string { data := #[52, 48] }, Value.string { data := #[50] }, Value.string { data := #[53, 48, 49] }, Value.string { data := #[54, 48] }, Value.string { data := #[51, 51, 48] }] 9); omega
    clear HT
    dsimp only
    rw [hs] at hsz ⊢
    go_wp2_with fail
    refine (c_spec_l02Read s _ (by omega)).mono ?_; rintro e w2 ⟨v, rfl, ho, hb2⟩
    go_wp2
    go_ret
    exact ⟨v, digsTo s s.size, k1, rfl, ho.ir.wide (by omega) (Nat.le_refl _), by rw [digsTo_len]; omega, fun x hx => by have := digsTo_bd s s.size x hx; omega, by omega, S1.below hb2, (((U0.trans Ub).trans (Upd.of_below ((Below.refl _ _).al _))).trans U1).trans (Upd.of_below hb2)⟩
  go_wp2_with fail
  refine (c_spec_l00Src_pick W0 g kb bs 4 _ Sb (by omega) (by omega)).mono ?_; rintro e w1 ⟨x, k1, rfl, hx0, hx1, -, hk1, S1, U1'⟩
  have hx := hx1 (by omega)
  clear hx1
  have U1 := (U0.trans Ub).trans U1'
  clear U0 Ub U1'
  obtain ⟨N, rfl⟩ := Int.eq_ofNat_of_zero_le hx0
  have hg1 := S1.lt
  have hU1s := U1.size
  go_wp2
  go_loopw [4, 5] (fun land i wr => ∃ (k : Nat) (xs : List Int) (q : Nat), k ≤ N + 1 ∧ i = .int .i64 k ∧ xs.length = k ∧ (∀ x ∈ xs, 0 ≤ x ∧ x ≤ 12) ∧ (∃ ad m cap, land = .slice (some ad) m cap) ∧ OwnI 2 w1.heap.size wr land xs ∧ q ≤ k1 + 2 * k ∧ Src W0 g bs q wr ∧ Upd g (g + 1) w wr) (fun _ i _ => N + 1 - (intOf i).toNat)
  case atStart => exact ⟨0, [], k1, by omega, by go_num, rfl, by simp, ⟨_, _, _, rfl⟩, OwnI.made rfl rfl (Nat.le_refl _), by omega, S1.below ((Below.refl _ _).al _), U1.trans (Upd.of_below ((Below.refl _ _).al _))⟩
  case round =>
    obtain ⟨k, xs, q, hk, rfl, hxl, hxb, ⟨ad, m, cap, rfl⟩, hown, hq, SR, UR⟩ := hrel
    by_cases hlt : k < N + 1
    · go_wp2_with fail
      refine (c_spec_l00Src_pick W0 g q bs ((k : Int) + 1) _ SR (by omega) (by omega)).mono ?_; rintro e w2 ⟨y, q2, rfl, hy0, hy1, -, hq2, S2, U2⟩
      have hy := hy1 (by omega)
      clear hy1
      obtain ⟨Y, rfl⟩ := Int.eq_ofNat_of_zero_le hy0
      have hlo := OwnI.gt hown
      have hown2 : OwnI 2 w1.heap.size w2 (.slice (some ad) m cap) xs := (hown.ir.upd U2 (Or.inr (by omega))).1
      have hs12 : w1.heap.size ≤ w2.heap.size := by have h1 := U2.size; have h2 : ad.block < wr.heap.size := hown.ir.2 ad.block rfl; have h3 : w1.heap.size ≤ ad.block := hlo ad.block rfl; omega
      go_wp2_with (at_builtin; refine push_int_at rfl _ _ _ _ rfl Try.underlying24 infoI w1.heap.size (.slice (some ad) m cap) xs (k : Int) w2 rfl rfl hown2 (by omega) hs12 ?_; intro v3 w3 ho3 hg3 hat3 hs3; refine stop_of ?_)
      unfold Stopped
      have S3 := S2.grown hg3 (fun n e => by have := hlo n e; omega)
      have U3 := updFresh' (UR.trans U2) hg3 (fun n e => by have := hlo n e; have := U1.size; omega)
      obtain ⟨b, cap3, rfl, hcap3⟩ := OwnI.some_of ho3 (by simp)
      have hbg := OwnI.gt ho3 b rfl
      obtain ⟨zs, hzs⟩ : ∃ zs, xs ++ [(k : Int)] = zs := ⟨_, rfl⟩
      have hzl : zs.length = k + 1 := by rw [← hzs]; simp [hxl]
      have hzb : ∀ x ∈ zs, 0 ≤ x ∧ x ≤ 12 := fun x hx => by
        rw [← hzs, List.mem_append] at hx
        rcases hx with hx | hx
        · exact hxb x hx
        · rw [List.mem_singleton.1 hx]; omega
      rw [hzs] at ho3 hcap3 ⊢
      have hc1 := OwnI.cell ho3 Y (by omega)
      have hc2 := OwnI.cell ho3 k (by omega)
      have hzY := hzb _ (getD_mem' (L := zs) (k := Y) (by omega))
      obtain ⟨z, hz⟩ : ∃ z, zs.getD Y 0 = z := ⟨_, rfl⟩
      rw [hz] at hc1 hzY
      obtain ⟨hc1, hf1⟩ := hc1
      obtain ⟨hc2, hf2⟩ := hc2
      have s1 := OwnI.store ho3 k z
      have s1' : OwnI 2 w1.heap.size (w3.setCell ⟨b, k, none⟩ (.int .i64 z)) (.slice (some ⟨b, 0, none⟩) (zs.set k z).length cap3) (zs.set k z) := by rw [List.length_set]; exact s1.1
      obtain ⟨⟨old, hc3⟩, hf3⟩ := OwnI.at s1' Y (by rw [List.length_set]; omega)
      have s2 := OwnI.store s1' Y (k : Int)
      have hin1 : (Y : Int) < (zs.length : Int) := by omega
      have hin2 : (k : Int) < (zs.length : Int) := by omega
      have hin3 : (0 : Int) ≤ (Y : Int) := by omega
      have hin4 : (0 : Int) ≤ (k : Int) := by omega
      have S5 := Lib.hid ((S3.grown s1.2 (fun n e => by simp only [Option.some.injEq] at e; have := S1.lt; omega)).grown s2.2 (fun n e => by simp only [Option.some.injEq] at e; have := S1.lt; omega))
      have U5 := Lib.hid (updFresh' (updFresh' U3 s1.2 (fun n e => by simp only [Option.some.injEq] at e; have := U1.size; omega)) s2.2 (fun n e => by simp only [Option.some.injEq] at e; have := U1.size; omega))
      have O5 : Hid (OwnI 2 w1.heap.size ((w3.setCell ⟨b, k, none⟩ (.int .i64 z)).setCell ⟨b, Y, none⟩ (.int .i64 (k : Int))) (.slice (some ⟨b, 0, none⟩) zs.length cap3) ((zs.set k z).set Y (k : Int))) := by have h := s2.1; rw [List.length_set] at h; exact h
      have hbb : ∀ x ∈ (zs.set k z).set Y (k : Int), 0 ≤ x ∧ x ≤ 12 := fun x hx => by
        rcases List.mem_or_eq_of_mem_set hx with hx | rfl
        · rcases List.mem_or_eq_of_mem_set hx with hx | rfl
          · exact hzb x hx
          · exact hzY
        · omega
      clear s1 s1' s2 ho3 hown2 hown
      go_wp2
      go_roundw
      case rel => exact ⟨k + 1, _, q2, by omega, by go_num, by simp [hzl], hbb, ⟨_, _, _, rfl⟩, O5.out, by omega, S5.out, U5.out⟩
      case measure => simp [intOf]; omega
    · obtain rfl : k = N + 1 := by omega
      obtain ⟨wA, rfl⟩ : ∃ wA : World, wA = wr := ⟨_, rfl⟩
      have hlo := OwnI.gt hown
      obtain ⟨b, capL, he, -⟩ := OwnI.some_of hown (by intro e; rw [e] at hxl; simp at hxl)
      cases he
      have hbg := hlo b rfl
      have hgA := SR.lt
      have hsA := UR.size
      have HCL : Hid (∀ j, j < N + 1 → ∃ z, wA.cell? ⟨b, j, none⟩ = some (.int .i64 z) ∧ 0 ≤ z ∧ z ≤ 12) := fun j hj => ⟨_, (OwnI.cell hown j (by omega)).1, hxb _ (getD_mem' (by omega))⟩
      rw [hxl, show ((N + 1 : Nat) : Int) = (N : Int) + 1 by omega]
      go_wp2
      go_loopw [7, 8] (fun out i wr => ∃ (k : Nat) (ys : List Int) (q3 : Nat), k ≤ N + 1 ∧ i = .int .i64 k ∧ ys.length = k ∧ (∀ y ∈ ys, 0 ≤ y ∧ y ≤ 30) ∧ (∃ ad m cap, out = .slice (some ad) m cap) ∧ OwnI 2 wA.heap.size wr out ys ∧ q3 ≤ q + 100 * k ∧ Src W0 g bs q3 wr ∧ Upd g (g + 1) wA wr) (fun _ i _ => N + 1 - (intOf i).toNat)
      case atStart => exact ⟨0, [], q, by omega, by go_num, rfl, by simp, ⟨_, _, _, rfl⟩, OwnI.made rfl rfl (Nat.le_refl _), by omega, SR.below ((Below.refl _ _).al _), Upd.of_below ((Below.refl _ _).al _)⟩
      case round =>
        obtain ⟨k, ys, q3, hk, rfl, hyl, hyb, ⟨ad, m, cap, rfl⟩, hout, hq3, SQ, UQ⟩ := hrel
        obtain ⟨wO, rfl⟩ : ∃ wO : World, wO = wr := ⟨_, rfl⟩
        have hUQs := UQ.size
        by_cases hlt : k < N + 1
        · obtain ⟨z, hcz, hz0, hz1⟩ := HCL.out k hlt
          have hcz := (UQ.cell b k (Or.inr (by omega)) (World.block_lt_of_cell? _ _ hcz)).trans hcz
          have hin1 : (k : Int) < (N : Int) + 1 := by omega
          have hin2 : (k : Int) < ((N + 1 : Nat) : Int) := by omega
          have hin0 : (0 : Int) ≤ (k : Int) := by omega
          have hm0 := Int.emod_nonneg (z - (k : Int)) (show (1 + (N : Int)) ≠ 0 by omega)
          have hm1 := Int.emod_lt_of_pos (z - (k : Int)) (show (0 : Int) < 1 + (N : Int) by omega)
          go_wp2_with fail
          refine (c_spec_l02Mod (z - (k : Int)) (1 + (N : Int)) _ (by omega) (by omega)).mono ?_; rintro e wm ⟨rfl, rfl⟩
          obtain ⟨T0, hT0⟩ : ∃ T0, (z - (k : Int)) % (1 + (N : Int)) = T0 := ⟨_, rfl⟩
          rw [hT0] at hm0 hm1 ⊢
          have hlo2 := OwnI.gt hout
          by_cases hb : T0 + (1 + (N : Int)) ≤ 6
          · have tb : decide (T0 + (1 + (N : Int)) ≤ 6) = true := by simpa using hb
            go_wp2_with fail
            refine (c_spec_l00Src_one W0 g q3 bs 2 _ SQ (by omega) (by omega)).mono ?_; rintro e w5 ⟨c, q5, rfl, hq5, S5, U5⟩
            have hU5s := U5.size
            have hout5 : OwnI 2 wA.heap.size w5 (.slice (some ad) m cap) ys := (hout.ir.upd U5 (Or.inr (by omega))).1
            cases c
            · skip
              go_wp2_with (at_builtin; refine push_int_at rfl _ _ _ _ rfl Try.underlying24 infoI wA.heap.size (.slice (some ad) m cap) ys T0 w5 rfl rfl hout5 (by omega) (by omega) ?_; intro v3 w3 ho3 hg3 hat3 hs3)
              go_roundw
              case rel => exact ⟨k + 1, ys ++ [T0], q5, by omega, by go_num, by simp [hyl], (fun y hy => by rcases List.mem_append.1 hy with hy | hy; exact hyb y hy; rw [List.mem_singleton.1 hy]; omega), (by obtain ⟨b3, cap4, e3, -⟩ := OwnI.some_of ho3 (by simp); exact ⟨_, _, _, e3⟩), ho3, by omega, S5.grown hg3 (fun n e => by have := hlo2 n e; omega), updFresh' (UQ.trans U5) hg3 (fun n e => hlo2 n e)⟩
              case measure => simp [intOf]; omega
            · skip
              go_wp2_with (at_builtin; refine push_int_at rfl _ _ _ _ rfl Try.underlying24 infoI wA.heap.size (.slice (some ad) m cap) ys (T0 + (1 + (N : Int))) w5 rfl rfl hout5 (by omega) (by omega) ?_; intro v3 w3 ho3 hg3 hat3 hs3)
              go_roundw
              case rel => exact ⟨k + 1, ys ++ [(T0 + (1 + (N : Int)))], q5, by omega, by go_num, by simp [hyl], (fun y hy => by rcases List.mem_append.1 hy with hy | hy; exact hyb y hy; rw [List.mem_singleton.1 hy]; omega), (by obtain ⟨b3, cap4, e3, -⟩ := OwnI.some_of ho3 (by simp); exact ⟨_, _, _, e3⟩), ho3, by omega, S5.grown hg3 (fun n e => by have := hlo2 n e; omega), updFresh' (UQ.trans U5) hg3 (fun n e => hlo2 n e)⟩
              case measure => simp [intOf]; omega
          · have tb : decide (T0 + (1 + (N : Int)) ≤ 6) = false := by simpa using hb
            go_wp2_with (at_builtin; refine push_int_at rfl _ _ _ _ rfl Try.underlying24 infoI wA.heap.size (.slice (some ad) m cap) ys T0 wO rfl rfl hout (by omega) (by omega) ?_; intro v3 w3 ho3 hg3 hat3 hs3)
            go_roundw
            case rel => exact ⟨k + 1, ys ++ [T0], q3, by omega, by go_num, by simp [hyl], (fun y hy => by rcases List.mem_append.1 hy with hy | hy; exact hyb y hy; rw [List.mem_singleton.1 hy]; omega), (by obtain ⟨b3, cap4, e3, -⟩ := OwnI.some_of ho3 (by simp); exact ⟨_, _, _, e3⟩), ho3, by omega, SQ.grown hg3 (fun n e => by have := hlo2 n e; omega), updFresh' UQ hg3 (fun n e => hlo2 n e)⟩
            case measure => simp [intOf]; omega
        · obtain rfl : k = N + 1 := by omega
          go_wp2
          go_ret
          exact ⟨_, ys, q3, rfl, hout.ir.wide (by omega) (Nat.le_refl _), by omega, (fun x hx => by have := hyb x hx; omega), by omega, SQ, UR.trans UQ⟩
theorem mxF_bd {p : List Int} {m : Int} (hm : 0 ≤ m) (hp : ∀ x ∈ p, x ≤ m) : 0 ≤ mxF 0 p ∧ mxF 0 p ≤ m := by
  obtain ⟨h1, h2, h3⟩ := mxF_ge 0 p
  rcases h3 with h3 | h3
  · omega
  · have := hp _ h3; omega
set_option maxHeartbeats 4000000 in
set_option maxRecDepth 100000 in
theorem c_spec_l10Height (W0 : World) (g k : Nat) (bs : List Int) (p : List Int) (v : Value) (w : World) (h : Src W0 g bs k w) (hr : RdI w v p) (hfar : ∀ b, v.ownBlock = some b → b ≠ g) (hb : ∀ x ∈ p, -1 ≤ x ∧ x ≤ 31) (hk : k < 590000) :
    Calls Try.prog 92 #[.pointer (some ⟨g, 0, none⟩), v] w fun e w' => ∃ (x : Int) (k' : Nat), e = .returned (.int .i64 x) ∧ k' ≤ k + 10 ∧ Src W0 g bs k' w' ∧ Upd g (g + 1) w w' := by
  have hgl := h.lt
  have hmb := mxF_bd (p := p) (m := 31) (by omega) (fun x hx => (hb x hx).2)
  have HR := Lib.hid hr
  have HH := Lib.hid h
  clear hr h
  have hrd1 : ∀ w0, Upd g (g + 1) w w0 → RdI w0 v p := fun w0 hu => by
    obtain ⟨a, cap, he, hl, hc⟩ := HR.out
    refine ⟨a, cap, he, hl, fun j hj => ?_⟩
    obtain ⟨b, off, ha, hcell⟩ := hc j hj
    have hbg := hfar b (by rw [he, ha]; rfl)
    exact ⟨b, off, ha, (hu.cell b (off + j) (by omega) (World.block_lt_of_cell? _ _ hcell)).trans hcell⟩
  have HRD := Lib.hid hrd1
  clear hrd1
  go_enter Try.func92, Try.ntmps92
  go_wp2_with fail
  refine (c_spec_l00Src_one W0 g k bs 12 _ HH.out (by omega) (by omega)).mono ?_; rintro e w0 ⟨c0, k0, rfl, hk0, S0, U0⟩
  cases c0
  · go_wp2_with fail
    refine (c_spec_l02High p _ _ (HRD.out _ U0)).mono ?_; rintro e w1 ⟨rfl, rfl⟩
    go_wp2_with fail
    refine (c_spec_l00Src_pick W0 g k0 bs 2 _ S0 (by omega) (by omega)).mono ?_; rintro e w2 ⟨x, k2, rfl, hx0, hx1, -, hk2, S2, U2⟩
    have hx := hx1 (by omega)
    clear hx1
    go_wp2_with fail
    refine (c_spec_l00Max' 1 (mxF 0 p + x) _).mono ?_; rintro e w3 ⟨rfl, rfl⟩
    go_wp2
    go_ret
    exact ⟨_, k2, rfl, by omega, S2, U0.trans U2⟩
  · go_wp2_with fail
    refine (c_spec_l02High p _ _ (HRD.out _ U0)).mono ?_; rintro e w1 ⟨rfl, rfl⟩
    go_wp2_with fail
    refine (c_spec_l00Src_among W0 g k0 bs [0, 10, 11, mxF 0 p - 1] _ _ (S0.below ((Below.refl _ _).al _)) (rd4 _ _ _ _ _) (by omega) (by simp) (fun n e => by simp only [Value.ownBlock, Option.some.injEq] at e; have := S0.lt; omega)).mono ?_; rintro e w4 ⟨x, k4, rfl, hx, hk4, S4, U4⟩
    go_wp2
    go_ret
    exact ⟨x, k4, rfl, by omega, S4, (U0.trans (Upd.of_below ((Below.refl _ _).al _))).trans U4⟩
end Go.Proofs.Ytpcaaohdlcoplaa
