/- The draws of the laws: timings that mostly fit, motions that fit. -/
import Derived.Test.YtgcmnpimkfmccaaDoorFrF
import Derived.Test.YtgcmnpimkfmccaaDoorDrP
namespace Go.Proofs.YtgcmnpimkfmccaaDoor
open Go.ChangeShapes Go.WideShapes Go.ChangeAt Go.RowKit
set_option linter.unusedSimpArgs false
set_option linter.unusedVariables false
theorem mostTo_bdG {p : List Int} {B : Int} (hB : 2 ≤ B ∧ B ≤ 30) (hb : ∀ x ∈ p, -1 ≤ x ∧ x ≤ 31) : ∀ k, 0 ≤ mostTo p B k ∧ mostTo p B k ≤ 60
  | 0 => by unfold mostTo; rw [List.take_zero]; show 0 ≤ 2 * B ∧ 2 * B ≤ 60; omega
  | k + 1 => by
    have ih := mostTo_bdG hB hb k
    by_cases hk : k < p.length
    · rw [mostTo_succ hk]
      have hx := hb _ (at_mem (p := p) (i := k) hk)
      generalize p.getD k 0 = x at *
      unfold mostX
      split
      · split
        · exact ih
        · rename_i h0 h1
          have : 1 * 2 ≤ x * B := Int.mul_le_mul (by omega) hB.1 (by omega) (by omega)
          omega
      · exact ih
    · have : mostTo p B (k + 1) = mostTo p B k := by
        unfold mostTo
        rw [List.take_of_length_le (by omega), List.take_of_length_le (by omega)]
      rw [this]; exact ih
set_option maxHeartbeats 2000000 in
set_option maxRecDepth 100000 in
theorem c_spec_l15MostG (p : List Int) (B : Int) (v : Value) (w : World) (hr : RdI w v p) (hb : ∀ x ∈ p, -1 ≤ x ∧ x ≤ 31) (hB : 2 ≤ B ∧ B ≤ 30) :
    Calls Tryd.prog 33 #[v, .int .i64 B] w fun e w' => e = .returned (.int .i64 (mostTo p B p.length)) ∧ w = w' := by
  obtain ⟨a1, cap1, rfl, hl1, hc1⟩ := hr
  have HB := Lib.hid (fun k hk => hb _ (at_mem (p := p) (i := k) hk))
  have HM := Lib.hid (mostTo_bdG hB hb)
  clear hb
  have H0 : Hid (mostTo p B 0 = 2 * B) := rfl
  go_enter Tryd.func33, Tryd.ntmps33
  go_wp2
  go_loopw [5, 6] (fun m i wr => ∃ k : Nat, k ≤ p.length ∧ i = .int .i64 k ∧ m = .int .i64 (mostTo p B k) ∧ w = wr) (fun _ i _ => p.length - (intOf i).toNat)
  case atStart => exact ⟨0, by omega, rfl, by rw [H0.out], by trivial⟩
  case round =>
    obtain ⟨k, hk, rfl, rfl, rfl⟩ := hrel
    have hmb := HM.out k
    by_cases hlt : k < p.length
    · obtain ⟨b1, o1, rfl, hx⟩ := hc1 k hlt
      have hbd := HB.out k hlt
      have HS := Lib.hid (mostTo_succ (B := B) hlt)
      obtain ⟨x, Hx⟩ : ∃ x, Hid (p.getD k 0 = x) := ⟨_, Lib.hid rfl⟩
      rw [Hx.out] at hx hbd HS
      have hm := bt_bd (b := x) (M := 31) (by omega) hB
      obtain ⟨M, HM2⟩ : ∃ M, Hid (x * B = M) := ⟨_, Lib.hid rfl⟩
      rw [HM2.out] at hm
      have hw1 : IntKind.i64.wrap (x * B) = M := by rw [HM2.out]; exact IntWalk.i64_in _ (by omega)
      generalize mostTo p B k = m at *
      clear hc1
      by_cases h0 : 0 < x
      · have HS2 : Hid (mostTo p B (k + 1) = if m < M - 1 then m else M - 1) := by
          unfold Hid
          rw [HS.out]
          unfold mostX
          rw [if_pos h0, HM2.out]
        go_wp2_with fail
        refine (c_spec_l00MinF _ _ _).mono ?_; rintro e w2 ⟨rfl, rfl⟩
        go_wp2
        go_roundw
        case rel => exact ⟨k + 1, by omega, by go_num, by rw [HS2.out], by trivial⟩
        case measure => simp [intOf]; omega
      · have HS2 : Hid (mostTo p B (k + 1) = m) := by
          unfold Hid
          rw [HS.out]
          unfold mostX
          rw [if_neg h0]
        go_wp2
        go_roundw
        case rel => exact ⟨k + 1, by omega, by go_num, by rw [HS2.out], by trivial⟩
        case measure => simp [intOf]; omega
    · obtain rfl : k = p.length := by omega
      clear hc1
      go_wp2
      go_ret
      exact ⟨rfl, rfl⟩

structure TBox (w : World) (b : Nat) (B D : Int) : Prop where
  c0 : w.cell? ⟨b, 0, none⟩ = some (.int .i64 B)
  c1 : w.cell? ⟨b, 1, none⟩ = some (.int .i64 D)
  f0 : w.frozen? ⟨b, 0, none⟩ = false
  f1 : w.frozen? ⟨b, 1, none⟩ = false
theorem TBox.new (w : World) (T : TypeId) (B D : Int) : TBox (w.alloc (Obj.cells #[.int .i64 B, .int .i64 D] T)) w.heap.size B D :=
  ⟨World.cell?_alloc_at _ _ _ _ rfl, World.cell?_alloc_at _ _ _ _ rfl, by go_simp, by go_simp⟩
section
variable {w w' : World} {b lo hi : Nat} {B D : Int}
theorem TBox.lt (h : TBox w b B D) : b < w.heap.size := World.block_lt_of_cell? _ _ h.c0
theorem TBox.upd (h : TBox w b B D) (u : Upd lo hi w w') (hn : b < lo ∨ hi ≤ b) : TBox w' b B D :=
  ⟨(u.cell b 0 hn h.lt).trans h.c0, (u.cell b 1 hn h.lt).trans h.c1, (u.frozen b 0 hn h.lt).trans h.f0, (u.frozen b 1 hn h.lt).trans h.f1⟩
theorem TBox.below (h : TBox w b B D) (hb : Below w.heap.size w w') : TBox w' b B D := ⟨keepc hb h.c0, keepc hb h.c1, frozenc hb h.c0 h.f0, frozenc hb h.c1 h.f1⟩
theorem TBox.grown {r : Option Nat} (h : TBox w b B D) (hg : w.grownBy w' r) (hn : r ≠ some b) : TBox w' b B D :=
  ⟨grown_c hg h.c0 hn, grown_c hg h.c1 hn, grown_f hg h.c0 h.f0 hn, grown_f hg h.c1 h.f1 hn⟩
theorem TBox.set (h : TBox w b B D) (x y : Int) : TBox ((w.setCell ⟨b, 0, none⟩ (.int .i64 x)).setCell ⟨b, 1, none⟩ (.int .i64 y)) b x y ∧ w.grownBy ((w.setCell ⟨b, 0, none⟩ (.int .i64 x)).setCell ⟨b, 1, none⟩ (.int .i64 y)) (some b) := by
  obtain ⟨h1, h2, h3, h4⟩ := set2 w b (.int .i64 x) (.int .i64 y) _ _ h.c0 h.c1
  exact ⟨⟨h1, h2, by rw [h3]; exact h.f0, by rw [h3]; exact h.f1⟩, h4⟩
theorem TBox.set1 (h : TBox w b B D) (y : Int) : TBox (w.setCell ⟨b, 1, none⟩ (.int .i64 y)) b B y ∧ w.grownBy (w.setCell ⟨b, 1, none⟩ (.int .i64 y)) (some b) :=
  ⟨⟨(World.cell?_setCell_other _ _ _ _ (by intro e; cases e)).trans h.c0, World.cell?_setCell_same (v := .int .i64 y) w _ h.c1, by rw [World.frozen?_setCell]; exact h.f0, by rw [World.frozen?_setCell]; exact h.f1⟩, grownBy_setCells w b [.int .i64 y] 1⟩
theorem TBox.set0 (h : TBox w b B D) (y : Int) : TBox (w.setCell ⟨b, 0, none⟩ (.int .i64 y)) b y D ∧ w.grownBy (w.setCell ⟨b, 0, none⟩ (.int .i64 y)) (some b) :=
  ⟨⟨World.cell?_setCell_same (v := .int .i64 y) w _ h.c0, (World.cell?_setCell_other _ _ _ _ (by intro e; cases e)).trans h.c1, by rw [World.frozen?_setCell]; exact h.f0, by rw [World.frozen?_setCell]; exact h.f1⟩, grownBy_setCells w b [.int .i64 y] 0⟩
theorem rdI_upd {v : Value} {p : List Int} (h : RdI w v p) (u : Upd lo hi w w') (hf : ∀ k, v.ownBlock = some k → k < lo ∨ hi ≤ k) : RdI w' v p := by
  obtain ⟨a, cap, he, hl, hc⟩ := h
  refine ⟨a, cap, he, hl, fun j hj => ?_⟩
  obtain ⟨bl, off, ha, hcell⟩ := hc j hj
  exact ⟨bl, off, ha, (u.cell bl (off + j) (hf bl (by rw [he, ha]; rfl)) (World.block_lt_of_cell? _ _ hcell)).trans hcell⟩
end
theorem rd5 (w : World) (a b c d e : Int) : RdI (w.alloc (Obj.cells #[.int .i64 a, .int .i64 b, .int .i64 c, .int .i64 d, .int .i64 e] 2)) (.slice (some ⟨w.heap.size, 0, none⟩) 5 5) [a, b, c, d, e] := by
  refine ⟨_, _, rfl, by simp, fun k hk => ⟨w.heap.size, 0, rfl, ?_⟩⟩
  have hk' : k < 5 := by simpa using hk
  have : k = 0 ∨ k = 1 ∨ k = 2 ∨ k = 3 ∨ k = 4 := by omega
  rcases this with rfl | rfl | rfl | rfl | rfl <;> exact World.cell?_alloc_at _ _ _ _ rfl
set_option maxHeartbeats 4000000 in
set_option maxRecDepth 100000 in
theorem c_spec_l15Draw (W0 : World) (g k : Nat) (bs : List Int) (p : List Int) (v : Value) (w : World) (h : Src W0 g bs k w) (hr : RdI w v p) (hfar : ∀ b, v.ownBlock = some b → b ≠ g) (hb : ∀ x ∈ p, -1 ≤ x ∧ x ≤ 31) (hk : k < 590000) :
    Calls Tryd.prog 34 #[.pointer (some ⟨g, 0, none⟩), v] w fun e w' => ∃ (B D : Int) (k' : Nat), e = .returned (.agg #[.int .i64 B, .int .i64 D]) ∧ k' ≤ k + 10 ∧ Src W0 g bs k' w' ∧ Upd g (g + 1) w w' := by
  have hgl := h.lt
  have HR := Lib.hid hr
  have HF := Lib.hid hfar
  have HB := Lib.hid hb
  have R0 := TBox.new w 26 0 0
  have S0 := h.below ((Below.refl _ _).al (Obj.cells #[.int .i64 0, .int .i64 0] 26))
  have U0 : Upd g (g + 1) w (w.alloc (Obj.cells #[.int .i64 0, .int .i64 0] 26)) := Upd.of_below ((Below.refl _ _).al _)
  clear hr hfar hb h
  go_enter Tryd.func34, Tryd.ntmps34
  go_wp2_with fail
  generalize (w.alloc (Obj.cells #[.int .i64 0, .int .i64 0] 26)) = w0 at *
  refine (c_spec_l00Src_pick W0 g k bs 14 _ S0 (by omega) (by omega)).mono ?_; rintro e w1 ⟨x, k1, rfl, hx0, hx1, -, hk1, S1, U1⟩
  have hx := hx1 (by omega)
  clear hx1
  have R1 := R0.upd U1 (by omega)
  have U1 := U0.trans U1
  clear U0 S0 R0
  obtain ⟨B, hB⟩ : ∃ B, 2 + x = B := ⟨_, rfl⟩
  have hBb : 2 ≤ B ∧ B ≤ 15 := by omega
  have hw0 : IntKind.i64.wrap (2 + x) = B := by rw [hB]; exact IntWalk.i64_in _ (by omega)
  have T1 := TBox.new w1 26 B 0
  have S2 := S1.below ((Below.refl _ _).al (Obj.cells #[.int .i64 B, .int .i64 0] 26))
  have U2 := U1.trans (Upd.of_below (lo := g) (hi := g + 1) ((Below.refl _ _).al (Obj.cells #[.int .i64 B, .int .i64 0] 26)))
  have R2 := R1.below ((Below.refl _ _).al (Obj.cells #[.int .i64 B, .int .i64 0] 26))
  have hRG := R1.lt
  have hg1 := S1.lt
  go_wp2_with fail
  generalize (w1.alloc (Obj.cells #[.int .i64 B, .int .i64 0] 26)) = w2 at *
  generalize w1.heap.size = G at *
  clear S1 U1 R1
  refine (c_spec_l15MostG p B _ _ (rdI_upd HR.out U2 (fun b e => by have := HF.out b e; omega)) HB.out (by omega)).mono ?_; rintro e w3 ⟨rfl, rfl⟩
  have hm := mostTo_bdG (B := B) (by omega) HB.out p.length
  go_wp2_with fail
  refine (c_spec_l00Max' 1 (mostTo p B p.length) _).mono ?_; rintro e w3 ⟨rfl, rfl⟩
  obtain ⟨M, hM⟩ : ∃ M, max 1 (mostTo p B p.length) = M := ⟨_, rfl⟩
  rw [hM]
  have hMb : 1 ≤ M ∧ M ≤ 60 := by omega
  clear hM hm
  go_wp2_with fail
  refine (c_spec_l00Src_pick W0 g k1 bs M _ S2 (by omega) (by omega)).mono ?_; rintro e w4 ⟨y, k4, rfl, hy0, hy1, -, hk4, S4, U4⟩
  have hy := hy1 (by omega)
  clear hy1
  have T4 := T1.upd U4 (by omega)
  have R4 := R2.upd U4 (by omega)
  have U4 := U2.trans U4
  clear T1 R2 U2 S2
  obtain ⟨T5, g5⟩ := T4.set1 (1 + y)
  have R5 := R4.grown g5 (by simp only [ne_eq, Option.some.injEq]; omega)
  have S5 := S4.grown g5 (fun n e => by simp only [Option.some.injEq] at e; omega)
  have U5 := updFresh' U4 g5 (fun n e => by simp only [Option.some.injEq] at e; omega)
  obtain ⟨D, hD⟩ : ∃ D, 1 + y = D := ⟨_, rfl⟩
  have hDb : 1 ≤ D ∧ D ≤ 60 := by omega
  have hw1 : IntKind.i64.wrap (1 + y) = D := by rw [hD]; exact IntWalk.i64_in _ (by omega)
  have t0 := T4.c0
  have t1 := T4.c1
  have tf0 := T4.f0
  have tf1 := T4.f1
  rw [hD] at T5 g5 R5 S5 U5
  go_wp2_with fail
  generalize (w4.setCell ⟨G, 1, none⟩ (.int .i64 D)) = w5 at *
  clear t0 t1 tf0 tf1 T4 R4 U4 S4 g5
  refine (c_spec_l00Src_pick W0 g k4 bs 20 _ S5 (by omega) (by omega)).mono ?_; rintro e w6 ⟨z, k6, rfl, hz0, hz1, -, hk6, S6, U6⟩
  have hz := hz1 (by omega)
  clear hz1
  have T6 := T5.upd U6 (by omega)
  have R6 := R5.upd U6 (by omega)
  have U6 := U5.trans U6
  clear T5 R5 U5 S5
  have hgl6 := S6.lt
  have hGl6 := T6.lt
  by_cases z0 : z = 0
  · subst z0
    have S7 := S6.below ((Below.refl _ _).al (Obj.cells #[.int .i64 1, .int .i64 2, .int .i64 30, .int .i64 31, .int .i64 (-9223372036854775808)] 2))
    have U7 := U6.trans (Upd.of_below (lo := g) (hi := g + 1) ((Below.refl _ _).al (Obj.cells #[.int .i64 1, .int .i64 2, .int .i64 30, .int .i64 31, .int .i64 (-9223372036854775808)] 2)))
    have R7 := R6.below ((Below.refl _ _).al (Obj.cells #[.int .i64 1, .int .i64 2, .int .i64 30, .int .i64 31, .int .i64 (-9223372036854775808)] 2))
    have T7 := T6.below ((Below.refl _ _).al (Obj.cells #[.int .i64 1, .int .i64 2, .int .i64 30, .int .i64 31, .int .i64 (-9223372036854775808)] 2))
    go_wp2_with fail
    refine (c_spec_l00Src_among W0 g k6 bs [1, 2, 30, 31, -9223372036854775808] _ _ S7 (rd5 _ _ _ _ _ _) (by omega) (by simp) (fun n e => by simp only [Value.ownBlock, Option.some.injEq] at e; omega)).mono ?_; rintro e w8 ⟨q, k8, rfl, hq, hk8, S8, U8⟩
    have T8 := T7.upd U8 (by omega)
    have R8 := R7.upd U8 (by omega)
    have U8 := U7.trans U8
    clear T7 R7 S7 U7 T6 R6 S6 U6
    obtain ⟨T9, g9⟩ := T8.set0 q
    have R9 := R8.grown g9 (by simp only [ne_eq, Option.some.injEq]; omega)
    have S9 := S8.grown g9 (fun n e => by simp only [Option.some.injEq] at e; omega)
    have U9 := updFresh' U8 g9 (fun n e => by simp only [Option.some.injEq] at e; omega)
    have t0 := T8.c0
    have t1 := T8.c1
    have tf0 := T8.f0
    have tf1 := T8.f1
    obtain ⟨wt, hwt⟩ : ∃ wt, w8.setCell ⟨G, 0, none⟩ (.int .i64 q) = wt := ⟨_, rfl⟩
    rw [hwt] at T9 R9 S9 U9
    have s0 := T9.c0
    have s1 := T9.c1
    have r0 := R9.c0
    have r1 := R9.c1
    have rf0 := R9.f0
    have rf1 := R9.f1
    obtain ⟨TZ, gz⟩ := R9.set q D
    have SZ := S9.grown gz (fun n e => by simp only [Option.some.injEq] at e; omega)
    have UZ := updFresh' U9 gz (fun n e => by simp only [Option.some.injEq] at e; omega)
    go_wp2
    have X0 := TZ.c0
    have X1 := TZ.c1
    exact bodyPost_ret (v := .agg #[.int .i64 q, .int .i64 D]) (by simp [results, Tryd.results34, go_sem, X0, X1]) rfl ⟨q, D, k8, rfl, by omega, SZ, UZ⟩
  · by_cases z1 : z = 1
    · subst z1
      have a0 := T6.c0
      have a1 := T6.c1
      have S7 := S6.below ((Below.refl _ _).al (Obj.cells #[.int .i64 0, .int .i64 1, .int .i64 (2 * B), .int .i64 (2 * B + 1)] 2))
      have U7 := U6.trans (Upd.of_below (lo := g) (hi := g + 1) ((Below.refl _ _).al (Obj.cells #[.int .i64 0, .int .i64 1, .int .i64 (2 * B), .int .i64 (2 * B + 1)] 2)))
      have R7 := R6.below ((Below.refl _ _).al (Obj.cells #[.int .i64 0, .int .i64 1, .int .i64 (2 * B), .int .i64 (2 * B + 1)] 2))
      have T7 := T6.below ((Below.refl _ _).al (Obj.cells #[.int .i64 0, .int .i64 1, .int .i64 (2 * B), .int .i64 (2 * B + 1)] 2))
      go_wp2_with fail
      refine (c_spec_l00Src_among W0 g k6 bs [0, 1, 2 * B, 2 * B + 1] _ _ S7 (rd4 _ _ _ _ _) (by omega) (by simp) (fun n e => by simp only [Value.ownBlock, Option.some.injEq] at e; omega)).mono ?_; rintro e w8 ⟨q, k8, rfl, hq, hk8, S8, U8⟩
      clear a0 a1
      have T8 := T7.upd U8 (by omega)
      have R8 := R7.upd U8 (by omega)
      have U8 := U7.trans U8
      clear T7 R7 S7 U7 T6 R6 S6 U6
      obtain ⟨T9, g9⟩ := T8.set1 q
      have R9 := R8.grown g9 (by simp only [ne_eq, Option.some.injEq]; omega)
      have S9 := S8.grown g9 (fun n e => by simp only [Option.some.injEq] at e; omega)
      have U9 := updFresh' U8 g9 (fun n e => by simp only [Option.some.injEq] at e; omega)
      have t0 := T8.c0
      have t1 := T8.c1
      have tf0 := T8.f0
      have tf1 := T8.f1
      obtain ⟨wt, hwt⟩ : ∃ wt, w8.setCell ⟨G, 1, none⟩ (.int .i64 q) = wt := ⟨_, rfl⟩
      rw [hwt] at T9 R9 S9 U9
      have s0 := T9.c0
      have s1 := T9.c1
      have r0 := R9.c0
      have r1 := R9.c1
      have rf0 := R9.f0
      have rf1 := R9.f1
      obtain ⟨TZ, gz⟩ := R9.set B q
      have SZ := S9.grown gz (fun n e => by simp only [Option.some.injEq] at e; omega)
      have UZ := updFresh' U9 gz (fun n e => by simp only [Option.some.injEq] at e; omega)
      go_wp2
      have X0 := TZ.c0
      have X1 := TZ.c1
      exact bodyPost_ret (v := .agg #[.int .i64 B, .int .i64 q]) (by simp [results, Tryd.results34, go_sem, X0, X1]) rfl ⟨B, q, k8, rfl, by omega, SZ, UZ⟩
    · have s0 := T6.c0
      have s1 := T6.c1
      have r0 := R6.c0
      have r1 := R6.c1
      have rf0 := R6.f0
      have rf1 := R6.f1
      obtain ⟨TZ, gz⟩ := R6.set B D
      have SZ := S6.grown gz (fun n e => by simp only [Option.some.injEq] at e; omega)
      have UZ := updFresh' U6 gz (fun n e => by simp only [Option.some.injEq] at e; omega)
      go_wp2
      have X0 := TZ.c0
      have X1 := TZ.c1
      exact bodyPost_ret (v := .agg #[.int .i64 B, .int .i64 D]) (by simp [results, Tryd.results34, go_sem, X0, X1]) rfl ⟨B, D, k6, rfl, by omega, SZ, UZ⟩

set_option maxHeartbeats 8000000 in
set_option maxRecDepth 100000 in
theorem c_spec_l16Three (W0 : World) (g k : Nat) (bs : List Int) (w : World) (h : Src W0 g bs k w) (hk : k < 570000) :
    Calls Tryd.prog 12 #[.pointer (some ⟨g, 0, none⟩)] w fun e w' => ∃ (v : Value) (p : List Int) (B D x : Int) (k' : Nat), e = .returned (.tuple #[v, .agg #[.int .i64 B, .int .i64 D], .int .i64 x]) ∧ RdI w' v p ∧ (∀ b, v.ownBlock = some b → w.heap.size < b) ∧ (∀ y ∈ p, -1 ≤ y ∧ y ≤ 31) ∧ k' ≤ k + 3100 ∧ Src W0 g bs k' w' ∧ Upd g (g + 1) w w' := by
  have hgw := h.lt
  have R0 := TBox.new w 26 0 0
  have S0 := h.below ((Below.refl _ _).al (Obj.cells #[.int .i64 0, .int .i64 0] 26))
  have U0 : Upd g (g + 1) w (w.alloc (Obj.cells #[.int .i64 0, .int .i64 0] 26)) := Upd.of_below ((Below.refl _ _).al _)
  clear h
  go_enter Tryd.func12, Tryd.ntmps12
  go_wp2_with fail
  generalize (w.alloc (Obj.cells #[.int .i64 0, .int .i64 0] 26)) = w0 at *
  refine (c_spec_l10Draw W0 g k bs _ S0 (by omega)).mono ?_; rintro e w1 ⟨v, p, k1, rfl, ho, -, hpl, hk1, S1, U1⟩
  have hR0 := R0.lt
  have R1 := R0.upd U1 (by omega)
  have U1 := U0.trans U1
  clear U0 S0 R0
  have HF : Hid (∀ b, v.ownBlock = some b → w.heap.size < b ∧ b < w1.heap.size) := fun b e => ⟨by have := OwnI.gt ho.1 b e; omega, ho.2 b e⟩
  have HR1 := ho.rd
  clear ho
  have HB := Lib.hid hpl
  go_wp2_with fail
  refine (c_spec_l00Src_pick W0 g k1 bs 7 _ S1 (by omega) (by omega)).mono ?_; rintro e w2 ⟨x, k2, rfl, hx0, hx1, -, hk2, S2, U2⟩
  have hx := hx1 (by omega)
  clear hx1
  have hs12 := U2.size
  have R2 := R1.upd U2 (by omega)
  have HR2 := rdI_upd HR1 U2 (fun b e => by have := HF.out b e; omega)
  have U2 := U1.trans U2
  clear U1 S1 R1 HR1
  obtain ⟨B, hB⟩ : ∃ B, 2 + x = B := ⟨_, rfl⟩
  have hBb : 2 ≤ B ∧ B ≤ 8 := by omega
  have hw0 : IntKind.i64.wrap (2 + x) = B := by rw [hB]; exact IntWalk.i64_in _ (by omega)
  have T2 := TBox.new w2 26 B 0
  have hb3 : Below w2.heap.size w2 (w2.alloc (Obj.cells #[.int .i64 B, .int .i64 0] 26)) := (Below.refl _ _).al _
  have S3 := S2.below hb3
  have U3 := U2.trans (Upd.of_below (lo := g) (hi := g + 1) hb3)
  have R3 := R2.below hb3
  have HR3 := HR2.below hb3
  have hRG := R2.lt
  have HFAR : Hid (∀ b, v.ownBlock = some b → w.heap.size < b ∧ b < w2.heap.size) := fun b e => by have := HF.out b e; omega
  clear HF
  go_wp2_with fail
  clear hb3
  generalize (w2.alloc (Obj.cells #[.int .i64 B, .int .i64 0] 26)) = w3 at *
  generalize w2.heap.size = G at *
  clear S2 U2 R2 HR2
  refine (c_spec_l15MostG p B _ _ HR3 HB.out (by omega)).mono ?_; rintro e w4 ⟨rfl, rfl⟩
  have hm := mostTo_bdG (B := B) (by omega) HB.out p.length
  go_wp2_with fail
  refine (c_spec_l00Max' 1 (mostTo p B p.length) _).mono ?_; rintro e w4 ⟨rfl, rfl⟩
  obtain ⟨M, hM⟩ : ∃ M, max 1 (mostTo p B p.length) = M := ⟨_, rfl⟩
  rw [hM]
  have hMb : 1 ≤ M ∧ M ≤ 60 := by omega
  clear hM hm
  go_wp2_with fail
  refine (c_spec_l00Src_pick W0 g k2 bs M _ S3 (by omega) (by omega)).mono ?_; rintro e w4 ⟨y, k4, rfl, hy0, hy1, -, hk4, S4, U4⟩
  have hy := hy1 (by omega)
  clear hy1
  have T4 := T2.upd U4 (by omega)
  have R4 := R3.upd U4 (by omega)
  have HR4 := rdI_upd HR3 U4 (fun b e => by have := HFAR.out b e; omega)
  have U4 := U3.trans U4
  clear T2 R3 U3 S3 HR3
  obtain ⟨T5, g5⟩ := T4.set1 (1 + y)
  have hgG : g < G := by omega
  have R5 := R4.grown g5 (by simp only [ne_eq, Option.some.injEq]; omega)
  have S5 := S4.grown g5 (fun n e => by simp only [Option.some.injEq] at e; omega)
  have U5 := updFresh' U4 g5 (fun n e => by simp only [Option.some.injEq] at e; omega)
  have HR5 := rdI_upd HR4 (Upd.of_grown (lo := G) (hi := G + 1) g5 (fun k hk => by simp only [Option.some.injEq] at hk; omega)) (fun b e => by have := HFAR.out b e; omega)
  obtain ⟨D, hD⟩ : ∃ D, 1 + y = D := ⟨_, rfl⟩
  have hw1 : IntKind.i64.wrap (1 + y) = D := by rw [hD]; exact IntWalk.i64_in _ (by omega)
  have t0 := T4.c0
  have t1 := T4.c1
  have tf0 := T4.f0
  have tf1 := T4.f1
  rw [hD] at T5 g5 R5 S5 U5 HR5
  go_wp2_with fail
  generalize (w4.setCell ⟨G, 1, none⟩ (.int .i64 D)) = w5 at *
  clear t0 t1 tf0 tf1 T4 R4 U4 S4 g5 HR4
  refine (c_spec_l00Src_pick W0 g k4 bs 16 _ S5 (by omega) (by omega)).mono ?_; rintro e w6 ⟨z, k6, rfl, hz0, hz1, -, hk6, S6, U6⟩
  have hz := hz1 (by omega)
  clear hz1
  have T6 := T5.upd U6 (by omega)
  have R6 := R5.upd U6 (by omega)
  have HR6 := rdI_upd HR5 U6 (fun b e => by have := HFAR.out b e; omega)
  have U6 := U5.trans U6
  clear T5 R5 U5 S5 HR5
  have hgl6 := S6.lt
  have hGl6 := T6.lt
  by_cases z0 : z = 0
  · subst z0
    go_wp2_with fail
    refine (c_spec_l15Draw W0 g k6 bs p v _ S6 HR6 (fun b e => by have := HFAR.out b e; omega) HB.out (by omega)).mono ?_; rintro e w7 ⟨B2, D2, k7, rfl, hk7, S7, U7⟩
    have T7 := T6.upd U7 (by omega)
    have R7 := R6.upd U7 (by omega)
    have HR7 := rdI_upd HR6 U7 (fun b e => by have := HFAR.out b e; omega)
    have U7 := U6.trans U7
    clear T6 R6 U6 S6 HR6
    obtain ⟨TB, g8⟩ := T7.set B2 D2
    have RB := R7.grown g8 (by simp only [ne_eq, Option.some.injEq]; omega)
    have SS := S7.grown g8 (fun n e => by simp only [Option.some.injEq] at e; omega)
    have UU := updFresh' U7 g8 (fun n e => by simp only [Option.some.injEq] at e; omega)
    have HRD := Lib.hid (rdI_upd HR7 (Upd.of_grown (lo := G) (hi := G + 1) g8 (fun k hk => by simp only [Option.some.injEq] at hk; omega)) (fun b e => by have := HFAR.out b e; omega))
    have t0 := T7.c0
    have t1 := T7.c1
    have tf0 := T7.f0
    have tf1 := T7.f1
    obtain ⟨BB, hBB⟩ : ∃ BB, B2 = BB := ⟨_, rfl⟩
    subst hBB
    go_wp2_with fail
    generalize ((w7.setCell ⟨G, 0, none⟩ (.int .i64 B2)).setCell ⟨G, 1, none⟩ (.int .i64 D2)) = wc at *
    have p0 := TB.c0
    have p1 := TB.c1
    have hgl := SS.lt
    have htl := TB.lt
    refine wp_region_noPanic ?_
    refine wp_region_held_drew (S := fun w' => w'.cell? ⟨G, 0, none⟩ = some (.int .i64 B2) ∧ w'.cell? ⟨G, 1, none⟩ = some (.int .i64 D2)) (by kernel_rfl) ?_ (fun hHeld => ?_)
    · exact ⟨p0, p1⟩
    (refine wpAnyH_take (i := 0) (v := ?tv1) rfl (by kernel_rfl) (by kernel_rfl) (by kernel_rfl) (fun _ _ _ h => h) (Or.inl ⟨by rfl, ?thy1⟩) (by assumption) ?trest1; case thy1 => (intro w hSw; (try dsimp only at hSw); go_simp; (try with_reducible rfl)); (try simp only [Act.put, List.getElem_toArray, List.getElem_cons_zero, List.getElem_cons_succ, List.setIfInBounds_toArray, List.set_cons_zero, List.set_cons_succ])); (refine wpAnyH_take (i := 1) (v := ?tv2) rfl (by kernel_rfl) (by kernel_rfl) (by kernel_rfl) (fun _ _ _ h => h) (Or.inl ⟨by rfl, ?thy2⟩) (by assumption) ?trest2; case thy2 => (intro w hSw; (try dsimp only at hSw); go_simp; (try with_reducible rfl)); (try simp only [Act.put, List.getElem_toArray, List.getElem_cons_zero, List.getElem_cons_succ, List.setIfInBounds_toArray, List.set_cons_zero, List.set_cons_succ])); (refine wpAnyH_take (i := 2) (v := ?tv3) rfl (by kernel_rfl) (by kernel_rfl) (by kernel_rfl) (fun _ _ _ h => h) (Or.inl ⟨by rfl, ?thy3⟩) (by assumption) ?trest3; case thy3 => (intro w hSw; (try dsimp only at hSw); go_simp; (try with_reducible rfl)); (try simp only [Act.put, List.getElem_toArray, List.getElem_cons_zero, List.getElem_cons_succ, List.setIfInBounds_toArray, List.set_cons_zero, List.set_cons_succ]))
    refine wpAnyH_ready (rs := [3]) (by kernel_rfl) (by simp) ?_; refine AllReadyH.cons (i := 3) rfl (fun K hK => ?_) AllReadyH.nil
    go_simp
    refine (c_spec_l00Src_pick W0 g k7 bs 12 _ (SS.below (Below.refl _ _).dr) (by omega) (by omega)).mono ?_
    rintro e w9 ⟨x9, k9, rfl, hx0, hx1, -, hk9, S9, U9⟩
    have T9 := (TB.below (Below.refl _ _).dr).upd U9 (by omega)
    refine hK.out _ _ ⟨T9.c0, T9.c1⟩ (fun hHeld => ?_)
    clear hK K
    (try simp only [Act.put, List.setIfInBounds_toArray, List.set_cons_zero, List.set_cons_succ])
    have UW : Upd g (g + 1) w w9 := (UU.trans (Upd.of_below (Below.refl _ _).dr)).trans U9
    have T0 := ((RB.below (Below.refl _ _).dr).upd U9 (by omega))
    (refine wpAnyH_take (i := 4) (v := ?tv4) rfl (by kernel_rfl) (by kernel_rfl) (by kernel_rfl) (fun _ _ _ h => h) (Or.inl ⟨by rfl, ?thy4⟩) (by assumption) ?trest4; case thy4 => (intro w hSw; (try dsimp only at hSw); go_simp; (try with_reducible rfl)); (try simp only [Act.put, List.getElem_toArray, List.getElem_cons_zero, List.getElem_cons_succ, List.setIfInBounds_toArray, List.set_cons_zero, List.set_cons_succ]))
    obtain ⟨TZ, gz⟩ := T0.set B2 D2
    have TY := T9.grown gz (by simp only [ne_eq, Option.some.injEq]; omega)
    have t0 := T0.c0
    have t1 := T0.c1
    have tf0 := T0.f0
    have tf1 := T0.f1
    refine wpAnyH_ready (rs := [5]) (by kernel_rfl) (by simp) ?_; refine AllReadyH.cons (i := 5) rfl (fun K hK => ?_) AllReadyH.nil
    go_simp
    refine hK.out _ _ ⟨TY.c0, TY.c1⟩ (fun hHeld => ?_)
    clear hK K
    (try simp only [Act.put, List.setIfInBounds_toArray, List.set_cons_zero, List.set_cons_succ])
    (refine wpAnyH_take (i := 6) (v := ?tv5) rfl (by kernel_rfl) (by kernel_rfl) (by kernel_rfl) (fun _ _ _ h => h) (Or.inl ⟨by rfl, ?thy5⟩) (by assumption) ?trest5; case thy5 => (intro w hSw; (try dsimp only at hSw); go_simp; (try with_reducible rfl)); (try simp only [Act.put, List.getElem_toArray, List.getElem_cons_zero, List.getElem_cons_succ, List.setIfInBounds_toArray, List.set_cons_zero, List.set_cons_succ]))
    refine wpAnyH_done (by kernel_rfl) ?_ _
    refine NoPanic.normal ?_
    have SZ := S9.grown gz (fun n e => by simp only [Option.some.injEq] at e; omega)
    have UZ := updFresh' UW gz (fun n e => by simp only [Option.some.injEq] at e; omega)
    have X0 := TZ.c0
    have X1 := TZ.c1
    have RZ := (rdI_upd (rdI_upd (HRD.out.below (Below.refl _ _).dr) U9 (fun b e => by have := HFAR.out b e; omega)) (Upd.of_grown (lo := w.heap.size) (hi := w.heap.size + 1) gz (fun k hk => by simp only [Option.some.injEq] at hk; omega)) (fun b e => by have := HFAR.out b e; omega))
    generalize ((w9.setCell ⟨w.heap.size, 0, none⟩ (.int .i64 B2)).setCell ⟨w.heap.size, 1, none⟩ (.int .i64 D2)) = wz at *
    go_wp2
    exact bodyPost_ret (v := .tuple #[v, .agg #[.int .i64 B2, .int .i64 D2], .int .i64 x9]) (by simp [results, Tryd.results12, go_sem, X0, X1]) rfl ⟨v, p, B2, D2, x9, k9, rfl, RZ, fun b e => (HFAR.out b e).1, hpl, by omega, SZ, UZ⟩
  · by_cases z1 : z = 1
    · subst z1
      have p0 := T6.c0
      have p1 := T6.c1
      have hsz := World.size_alloc w6 (Obj.cells #[.int .i64 (-1), .int .i64 0, .int .i64 16, .int .i64 17] 2)
      have hb7 : Below w6.heap.size w6 (w6.alloc (Obj.cells #[.int .i64 (-1), .int .i64 0, .int .i64 16, .int .i64 17] 2)).drew := ((Below.refl _ _).al _).dr
      have S7 := S6.below hb7
      have U7 := U6.trans (Upd.of_below (lo := g) (hi := g + 1) hb7)
      have R7 := R6.below hb7
      have T7 := T6.below hb7
      have HR7 := HR6.below hb7
      have rd7 := rd4 w6 (-1) 0 16 17
      go_wp2_with fail
      refine wp_region_noPanic ?_
      refine wp_region_held_drew (S := fun w' => w'.cell? ⟨G, 0, none⟩ = some (.int .i64 B) ∧ w'.cell? ⟨G, 1, none⟩ = some (.int .i64 D)) (by kernel_rfl) ?_ (fun hHeld => ?_)
      · exact ⟨p0, p1⟩
      (refine wpAnyH_take (i := 0) (v := ?tv6) rfl (by kernel_rfl) (by kernel_rfl) (by kernel_rfl) (fun _ _ _ h => h) (Or.inl ⟨by rfl, ?thy6⟩) (by assumption) ?trest6; case thy6 => (intro w hSw; (try dsimp only at hSw); go_simp; (try with_reducible rfl)); (try simp only [Act.put, List.getElem_toArray, List.getElem_cons_zero, List.getElem_cons_succ, List.setIfInBounds_toArray, List.set_cons_zero, List.set_cons_succ])); (refine wpAnyH_take (i := 1) (v := ?tv7) rfl (by kernel_rfl) (by kernel_rfl) (by kernel_rfl) (fun _ _ _ h => h) (Or.inl ⟨by rfl, ?thy7⟩) (by assumption) ?trest7; case thy7 => (intro w hSw; (try dsimp only at hSw); go_simp; (try with_reducible rfl)); (try simp only [Act.put, List.getElem_toArray, List.getElem_cons_zero, List.getElem_cons_succ, List.setIfInBounds_toArray, List.set_cons_zero, List.set_cons_succ])); (refine wpAnyH_take (i := 2) (v := ?tv8) rfl (by kernel_rfl) (by kernel_rfl) (by kernel_rfl) (fun _ _ _ h => h) (Or.inl ⟨by rfl, ?thy8⟩) (by assumption) ?trest8; case thy8 => (intro w hSw; (try dsimp only at hSw); go_simp; (try with_reducible rfl)); (try simp only [Act.put, List.getElem_toArray, List.getElem_cons_zero, List.getElem_cons_succ, List.setIfInBounds_toArray, List.set_cons_zero, List.set_cons_succ]))
      refine wpAnyH_ready (rs := [3]) (by kernel_rfl) (by simp) ?_; refine AllReadyH.cons (i := 3) rfl (fun K hK => ?_) AllReadyH.nil
      go_simp
      refine hK.out _ _ ⟨T7.c0, T7.c1⟩ (fun hHeld => ?_)
      clear hK K
      (try simp only [Act.put, List.setIfInBounds_toArray, List.set_cons_zero, List.set_cons_succ])
      clear p0 p1 hb7
      generalize (w6.alloc (Obj.cells #[.int .i64 (-1), .int .i64 0, .int .i64 16, .int .i64 17] 2)) = w7 at *
      refine wpAnyH_ready (rs := [4]) (by kernel_rfl) (by simp) ?_; refine AllReadyH.cons (i := 4) rfl (fun K hK => ?_) AllReadyH.nil
      go_simp
      refine (c_spec_l00Src_among W0 g k6 bs [-1, 0, 16, 17] _ _ S7 (rd7.below (Below.refl _ _).dr) (by omega) (by simp) (fun n e => by simp only [Value.ownBlock, Option.some.injEq] at e; omega)).mono ?_
      rintro e w9 ⟨x9, k9, rfl, -, hk9, S9, U9⟩
      have T9 := T7.upd U9 (by omega)
      refine hK.out _ _ ⟨T9.c0, T9.c1⟩ (fun hHeld => ?_)
      clear hK K
      (try simp only [Act.put, List.setIfInBounds_toArray, List.set_cons_zero, List.set_cons_succ])
      have UW : Upd g (g + 1) w w9 := U7.trans U9
      have T0 := R7.upd U9 (by omega)
      have HR9 := rdI_upd HR7 U9 (fun b e => by have := HFAR.out b e; omega)
      (refine wpAnyH_take (i := 5) (v := ?tv9) rfl (by kernel_rfl) (by kernel_rfl) (by kernel_rfl) (fun _ _ _ h => h) (Or.inl ⟨by rfl, ?thy9⟩) (by assumption) ?trest9; case thy9 => (intro w hSw; (try dsimp only at hSw); go_simp; (try with_reducible rfl)); (try simp only [Act.put, List.getElem_toArray, List.getElem_cons_zero, List.getElem_cons_succ, List.setIfInBounds_toArray, List.set_cons_zero, List.set_cons_succ]))
      obtain ⟨TZ, gz⟩ := T0.set B D
      have TY := T9.grown gz (by simp only [ne_eq, Option.some.injEq]; omega)
      have t0 := T0.c0
      have t1 := T0.c1
      have tf0 := T0.f0
      have tf1 := T0.f1
      refine wpAnyH_ready (rs := [6]) (by kernel_rfl) (by simp) ?_; refine AllReadyH.cons (i := 6) rfl (fun K hK => ?_) AllReadyH.nil
      go_simp
      refine hK.out _ _ ⟨TY.c0, TY.c1⟩ (fun hHeld => ?_)
      clear hK K
      (try simp only [Act.put, List.setIfInBounds_toArray, List.set_cons_zero, List.set_cons_succ])
      (refine wpAnyH_take (i := 7) (v := ?tv10) rfl (by kernel_rfl) (by kernel_rfl) (by kernel_rfl) (fun _ _ _ h => h) (Or.inl ⟨by rfl, ?thy10⟩) (by assumption) ?trest10; case thy10 => (intro w hSw; (try dsimp only at hSw); go_simp; (try with_reducible rfl)); (try simp only [Act.put, List.getElem_toArray, List.getElem_cons_zero, List.getElem_cons_succ, List.setIfInBounds_toArray, List.set_cons_zero, List.set_cons_succ]))
      refine wpAnyH_done (by kernel_rfl) ?_ _
      refine NoPanic.normal ?_
      have SZ := S9.grown gz (fun n e => by simp only [Option.some.injEq] at e; omega)
      have UZ := updFresh' UW gz (fun n e => by simp only [Option.some.injEq] at e; omega)
      have X0 := TZ.c0
      have X1 := TZ.c1
      have RZ := rdI_upd HR9 (Upd.of_grown (lo := w.heap.size) (hi := w.heap.size + 1) gz (fun k hk => by simp only [Option.some.injEq] at hk; omega)) (fun b e => by have := HFAR.out b e; omega)
      generalize ((w9.setCell ⟨w.heap.size, 0, none⟩ (.int .i64 B)).setCell ⟨w.heap.size, 1, none⟩ (.int .i64 D)) = wz at *
      go_wp2
      exact bodyPost_ret (v := .tuple #[v, .agg #[.int .i64 B, .int .i64 D], .int .i64 x9]) (by simp [results, Tryd.results12, go_sem, X0, X1]) rfl ⟨v, p, B, D, x9, k9, rfl, RZ, fun b e => (HFAR.out b e).1, hpl, by omega, SZ, UZ⟩
    · have TB := T6
      have RB := R6
      have SS := S6
      have UU := U6
      have HRD := Lib.hid HR6
      clear T6 R6 S6 U6 HR6
      go_wp2_with fail
      have p0 := TB.c0
      have p1 := TB.c1
      have hgl := SS.lt
      have htl := TB.lt
      refine wp_region_noPanic ?_
      refine wp_region_held_drew (S := fun w' => w'.cell? ⟨G, 0, none⟩ = some (.int .i64 B) ∧ w'.cell? ⟨G, 1, none⟩ = some (.int .i64 D)) (by kernel_rfl) ?_ (fun hHeld => ?_)
      · exact ⟨p0, p1⟩
      (refine wpAnyH_take (i := 0) (v := ?tv11) rfl (by kernel_rfl) (by kernel_rfl) (by kernel_rfl) (fun _ _ _ h => h) (Or.inl ⟨by rfl, ?thy11⟩) (by assumption) ?trest11; case thy11 => (intro w hSw; (try dsimp only at hSw); go_simp; (try with_reducible rfl)); (try simp only [Act.put, List.getElem_toArray, List.getElem_cons_zero, List.getElem_cons_succ, List.setIfInBounds_toArray, List.set_cons_zero, List.set_cons_succ])); (refine wpAnyH_take (i := 1) (v := ?tv12) rfl (by kernel_rfl) (by kernel_rfl) (by kernel_rfl) (fun _ _ _ h => h) (Or.inl ⟨by rfl, ?thy12⟩) (by assumption) ?trest12; case thy12 => (intro w hSw; (try dsimp only at hSw); go_simp; (try with_reducible rfl)); (try simp only [Act.put, List.getElem_toArray, List.getElem_cons_zero, List.getElem_cons_succ, List.setIfInBounds_toArray, List.set_cons_zero, List.set_cons_succ])); (refine wpAnyH_take (i := 2) (v := ?tv13) rfl (by kernel_rfl) (by kernel_rfl) (by kernel_rfl) (fun _ _ _ h => h) (Or.inl ⟨by rfl, ?thy13⟩) (by assumption) ?trest13; case thy13 => (intro w hSw; (try dsimp only at hSw); go_simp; (try with_reducible rfl)); (try simp only [Act.put, List.getElem_toArray, List.getElem_cons_zero, List.getElem_cons_succ, List.setIfInBounds_toArray, List.set_cons_zero, List.set_cons_succ]))
      refine wpAnyH_ready (rs := [3]) (by kernel_rfl) (by simp) ?_; refine AllReadyH.cons (i := 3) rfl (fun K hK => ?_) AllReadyH.nil
      go_simp
      refine (c_spec_l00Src_pick W0 g k6 bs 12 _ (SS.below (Below.refl _ _).dr) (by omega) (by omega)).mono ?_
      rintro e w9 ⟨x9, k9, rfl, hx0, hx1, -, hk9, S9, U9⟩
      have T9 := (TB.below (Below.refl _ _).dr).upd U9 (by omega)
      refine hK.out _ _ ⟨T9.c0, T9.c1⟩ (fun hHeld => ?_)
      clear hK K
      (try simp only [Act.put, List.setIfInBounds_toArray, List.set_cons_zero, List.set_cons_succ])
      have UW : Upd g (g + 1) w w9 := (UU.trans (Upd.of_below (Below.refl _ _).dr)).trans U9
      have T0 := ((RB.below (Below.refl _ _).dr).upd U9 (by omega))
      (refine wpAnyH_take (i := 4) (v := ?tv14) rfl (by kernel_rfl) (by kernel_rfl) (by kernel_rfl) (fun _ _ _ h => h) (Or.inl ⟨by rfl, ?thy14⟩) (by assumption) ?trest14; case thy14 => (intro w hSw; (try dsimp only at hSw); go_simp; (try with_reducible rfl)); (try simp only [Act.put, List.getElem_toArray, List.getElem_cons_zero, List.getElem_cons_succ, List.setIfInBounds_toArray, List.set_cons_zero, List.set_cons_succ]))
      obtain ⟨TZ, gz⟩ := T0.set B D
      have TY := T9.grown gz (by simp only [ne_eq, Option.some.injEq]; omega)
      have t0 := T0.c0
      have t1 := T0.c1
      have tf0 := T0.f0
      have tf1 := T0.f1
      refine wpAnyH_ready (rs := [5]) (by kernel_rfl) (by simp) ?_; refine AllReadyH.cons (i := 5) rfl (fun K hK => ?_) AllReadyH.nil
      go_simp
      refine hK.out _ _ ⟨TY.c0, TY.c1⟩ (fun hHeld => ?_)
      clear hK K
      (try simp only [Act.put, List.setIfInBounds_toArray, List.set_cons_zero, List.set_cons_succ])
      (refine wpAnyH_take (i := 6) (v := ?tv15) rfl (by kernel_rfl) (by kernel_rfl) (by kernel_rfl) (fun _ _ _ h => h) (Or.inl ⟨by rfl, ?thy15⟩) (by assumption) ?trest15; case thy15 => (intro w hSw; (try dsimp only at hSw); go_simp; (try with_reducible rfl)); (try simp only [Act.put, List.getElem_toArray, List.getElem_cons_zero, List.getElem_cons_succ, List.setIfInBounds_toArray, List.set_cons_zero, List.set_cons_succ]))
      refine wpAnyH_done (by kernel_rfl) ?_ _
      refine NoPanic.normal ?_
      have SZ := S9.grown gz (fun n e => by simp only [Option.some.injEq] at e; omega)
      have UZ := updFresh' UW gz (fun n e => by simp only [Option.some.injEq] at e; omega)
      have X0 := TZ.c0
      have X1 := TZ.c1
      have RZ := (rdI_upd (rdI_upd (HRD.out.below (Below.refl _ _).dr) U9 (fun b e => by have := HFAR.out b e; omega)) (Upd.of_grown (lo := w.heap.size) (hi := w.heap.size + 1) gz (fun k hk => by simp only [Option.some.injEq] at hk; omega)) (fun b e => by have := HFAR.out b e; omega))
      generalize ((w9.setCell ⟨w.heap.size, 0, none⟩ (.int .i64 B)).setCell ⟨w.heap.size, 1, none⟩ (.int .i64 D)) = wz at *
      go_wp2
      exact bodyPost_ret (v := .tuple #[v, .agg #[.int .i64 B, .int .i64 D], .int .i64 x9]) (by simp [results, Tryd.results12, go_sem, X0, X1]) rfl ⟨v, p, B, D, x9, k9, rfl, RZ, fun b e => (HFAR.out b e).1, hpl, by omega, SZ, UZ⟩
set_option maxHeartbeats 8000000 in
set_option maxRecDepth 100000 in
theorem c_spec_A2Motion (bs : List Int) (v : Value) (w : World) (h : RdB w v bs) :
    Calls Tryd.prog 5 #[v] w fun e w' => ∃ (u : Value) (p : List Int) (B D x : Int), e = .returned (.tuple #[u, .agg #[.int .i64 B, .int .i64 D], .int .i64 x]) ∧ RdI w' u p ∧ fCode p B D x = 0 ∧ Below w.heap.size w w' := by
  have R0 := TBox.new w 26 0 0
  have B0 : Below w.heap.size w (w.alloc (Obj.cells #[.int .i64 0, .int .i64 0] 26)) := (Below.refl _ _).al _
  obtain ⟨W0, hW0⟩ : ∃ W0, w.alloc (Obj.cells #[.int .i64 0, .int .i64 0] 26) = W0 := ⟨_, rfl⟩
  rw [hW0] at R0 B0
  have hzl := R0.lt
  go_enter Tryd.func5, Tryd.ntmps5
  go_wp2_with fail
  clear hW0
  refine (c_spec_l00From bs v _ (h.below B0)).mono ?_; rintro e w1 ⟨rfl, S1, hb1⟩
  go_wp2
  go_loopw [6] (fun i wr => ∃ (j : Nat) (q : Nat), j ≤ 6 ∧ i = .int .i64 j ∧ q ≤ 3100 * j ∧ Src W0 W0.heap.size bs q wr) (fun i _ => 6 - (intOf i).toNat)
  case atStart => exact ⟨0, 0, by omega, by go_num, by omega, S1⟩
  case round =>
    obtain ⟨j, q, hj, rfl, hq, SR⟩ := hrel
    by_cases hlt : j < 6
    · go_wp2_with fail
      refine (c_spec_l16Three W0 W0.heap.size q bs _ SR (by omega)).mono ?_; rintro e w2 ⟨u, p, B, D, x, q2, rfl, r2, hfu, -, hq2, S2, U2⟩
      have hrz := SR.lt
      have hfar : ∀ b, u.ownBlock = some b → w.heap.size < b := fun b e => by have := hfu b e; omega
      have T2 := TBox.new w2 26 B D
      have hb3 : Below w2.heap.size w2 (w2.alloc (Obj.cells #[.int .i64 B, .int .i64 D] 26)) := (Below.refl _ _).al _
      have S3 := S2.below hb3
      have r3 := r2.below hb3
      have hz2 : W0.heap.size < w2.heap.size := S2.lt
      go_wp2_with fail
      clear hb3
      generalize (w2.alloc (Obj.cells #[.int .i64 B, .int .i64 D] 26)) = w3 at *
      generalize w2.heap.size = G at *
      refine (c_spec_l16Ask p B D x _ _ r3).mono ?_; rintro e w4 ⟨rfl, hb4⟩
      have S4 := S3.below hb4
      have T4 := T2.below hb4
      by_cases hc : fCode p B D x = 0
      · rw [hc]
        have r4 := r3.below hb4
        have R4 := R0.below S4.hb
        have p0 := T4.c0
        have p1 := T4.c1
        have hG4 := T4.lt
        go_wp2_with fail
        refine wp_region_noPanic ?_
        refine wp_region_held_drew (S := fun w' => w'.cell? ⟨G, 0, none⟩ = some (.int .i64 B) ∧ w'.cell? ⟨G, 1, none⟩ = some (.int .i64 D)) (by kernel_rfl) ?_ (fun hHeld => ?_)
        · exact ⟨p0, p1⟩
        (refine wpAnyH_take (i := 0) (v := ?tv16) rfl (by kernel_rfl) (by kernel_rfl) (by kernel_rfl) (fun _ _ _ h => h) (Or.inl ⟨by rfl, ?thy16⟩) (by assumption) ?trest16; case thy16 => (intro w hSw; (try dsimp only at hSw); go_simp; (try with_reducible rfl)); (try simp only [Act.put, List.getElem_toArray, List.getElem_cons_zero, List.getElem_cons_succ, List.setIfInBounds_toArray, List.set_cons_zero, List.set_cons_succ])); (refine wpAnyH_take (i := 1) (v := ?tv17) rfl (by kernel_rfl) (by kernel_rfl) (by kernel_rfl) (fun _ _ _ h => h) (Or.inl ⟨by rfl, ?thy17⟩) (by assumption) ?trest17; case thy17 => (intro w hSw; (try dsimp only at hSw); go_simp; (try with_reducible rfl)); (try simp only [Act.put, List.getElem_toArray, List.getElem_cons_zero, List.getElem_cons_succ, List.setIfInBounds_toArray, List.set_cons_zero, List.set_cons_succ])); (refine wpAnyH_take (i := 2) (v := ?tv18) rfl (by kernel_rfl) (by kernel_rfl) (by kernel_rfl) (fun _ _ _ h => h) (Or.inl ⟨by rfl, ?thy18⟩) (by assumption) ?trest18; case thy18 => (intro w hSw; (try dsimp only at hSw); go_simp; (try with_reducible rfl)); (try simp only [Act.put, List.getElem_toArray, List.getElem_cons_zero, List.getElem_cons_succ, List.setIfInBounds_toArray, List.set_cons_zero, List.set_cons_succ])); (refine wpAnyH_take (i := 3) (v := ?tv19) rfl (by kernel_rfl) (by kernel_rfl) (by kernel_rfl) (fun _ _ _ h => h) (Or.inl ⟨by rfl, ?thy19⟩) (by assumption) ?trest19; case thy19 => (intro w hSw; (try dsimp only at hSw); go_simp; (try with_reducible rfl)); (try simp only [Act.put, List.getElem_toArray, List.getElem_cons_zero, List.getElem_cons_succ, List.setIfInBounds_toArray, List.set_cons_zero, List.set_cons_succ]))
        obtain ⟨TZ, gz⟩ := R4.set B D
        have TY := (T4.grown gz (by simp only [ne_eq, Option.some.injEq]; omega)).below (Below.refl _ _).dr
        have t0 := R4.c0
        have t1 := R4.c1
        have tf0 := R4.f0
        have tf1 := R4.f1
        refine wpAnyH_ready (rs := [4]) (by kernel_rfl) (by simp) ?_; refine AllReadyH.cons (i := 4) rfl (fun K hK => ?_) AllReadyH.nil
        go_simp
        refine hK.out _ _ ⟨TY.c0, TY.c1⟩ (fun hHeld => ?_)
        clear hK K
        (try simp only [Act.put, List.setIfInBounds_toArray, List.set_cons_zero, List.set_cons_succ])
        (refine wpAnyH_take (i := 5) (v := ?tv20) rfl (by kernel_rfl) (by kernel_rfl) (by kernel_rfl) (fun _ _ _ h => h) (Or.inl ⟨by rfl, ?thy20⟩) (by assumption) ?trest20; case thy20 => (intro w hSw; (try dsimp only at hSw); go_simp; (try with_reducible rfl)); (try simp only [Act.put, List.getElem_toArray, List.getElem_cons_zero, List.getElem_cons_succ, List.setIfInBounds_toArray, List.set_cons_zero, List.set_cons_succ]))
        refine wpAnyH_done (by kernel_rfl) ?_ _
        refine NoPanic.normal ?_
        have X0 := TZ.c0
        have X1 := TZ.c1
        have BZ := ((B0.tr S4.hb).grown gz (by omega) (fun k hk => by simp only [Option.some.injEq] at hk; omega)).dr
        have rZ := (rdI_upd r4 (Upd.of_grown (lo := w.heap.size) (hi := w.heap.size + 1) gz (fun k hk => by simp only [Option.some.injEq] at hk; omega)) (fun b e => by have := hfar b e; omega)).below (Below.refl _ _).dr
        go_wp2
        exact bodyPost_ret (v := .tuple #[u, .agg #[.int .i64 B, .int .i64 D], .int .i64 x]) (by simp [results, Tryd.results5, go_sem, X0, X1]) rfl ⟨u, p, B, D, x, rfl, rZ, hc, BZ⟩
      · have tc : (fCode p B D x == 0) = false := by simpa using hc
        obtain ⟨C, hC⟩ : ∃ C, fCode p B D x = C := ⟨_, rfl⟩
        rw [hC] at tc ⊢
        clear hc hC
        go_wp2
        go_roundw
        case rel => exact ⟨j + 1, q2, by omega, by go_num, by omega, S4⟩
        case measure => simp [intOf]; omega
    · obtain rfl : j = 6 := by omega
      have RW := R0.below SR.hb
      have hG0 := R0.lt
      have hR0 := SR.lt
      have hzr : w.heap.size < wr.heap.size := by omega
      have hnz : ¬ w.heap.size = wr.heap.size := by omega
      have hbb := B0.tr SR.hb
      obtain ⟨TZ, gz⟩ := RW.set 4 2
      have t0 := RW.c0
      have t1 := RW.c1
      have tf0 := RW.f0
      have tf1 := RW.f1
      have hsz : ((wr.setCell ⟨w.heap.size, 0, none⟩ (.int .i64 4)).setCell ⟨w.heap.size, 1, none⟩ (.int .i64 2)).heap.size = wr.heap.size := by simp
      have hBZ := hbb.grown gz hbb.size (fun k hk => by simp only [Option.some.injEq] at hk; omega)
      go_wp2
      generalize ((wr.setCell ⟨w.heap.size, 0, none⟩ (.int .i64 4)).setCell ⟨w.heap.size, 1, none⟩ (.int .i64 2)) = wz at *
      have hb5 : Below wz.heap.size wz (wz.alloc (Obj.cells #[.int .i64 3] 2)) := (Below.refl _ _).al _
      have r5 : RdI (wz.alloc (Obj.cells #[.int .i64 3] 2)) (.slice (some ⟨wr.heap.size, 0, none⟩) 1 1) [3] := ⟨_, _, rfl, by simp, fun k hk => ⟨wr.heap.size, 0, rfl, by
        obtain rfl : k = 0 := by simpa using hk
        rw [← hsz]
        exact World.cell?_alloc_at _ _ _ _ rfl⟩⟩
      have TY := TZ.below hb5
      have X0 := TY.c0
      have X1 := TY.c1
      have hB5 := hBZ.tr hb5
      clear hb5 TZ hBZ gz TY
      generalize (wz.alloc (Obj.cells #[.int .i64 3] 2)) = wy at *
      exact bodyPost_ret (v := .tuple #[.slice (some ⟨wr.heap.size, 0, none⟩) 1 1, .agg #[.int .i64 4, .int .i64 2], .int .i64 5]) (by simp [results, Tryd.results5, go_sem, X0, X1]) rfl ⟨_, [3], 4, 2, 5, rfl, r5, by decide, hB5⟩
end Go.Proofs.YtgcmnpimkfmccaaDoor
