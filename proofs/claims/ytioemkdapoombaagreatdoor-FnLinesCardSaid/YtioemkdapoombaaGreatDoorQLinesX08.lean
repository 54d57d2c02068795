/- The law LinesX: what it rests on, part 8 of 46. -/
import Derived.Laws.BitsAllLaws
import Derived.Test.YtioemkdapoombaaGreatDoorQLinesX03
import Derived.Test.YtioemkdapoombaaGreatDoorQLinesX06
import Derived.Test.YtioemkdapoombaaGreatDoorQLinesX07
namespace Go.Proofs.YtioemkdapoombaaGreatDoor
open Go.ChangeShapes Go.WideShapes Go.ChangeAt Go.RowKit
set_option linter.unusedVariables false
set_option linter.unusedSimpArgs false
theorem u64_bd (n : Int) : 0 ≤ IntKind.u64.wrap n ∧ IntKind.u64.wrap n < 18446744073709551616 := by
  have : IntKind.u64.wrap n = n % 18446744073709551616 := by simp [IntKind.wrap, IntKind.bits, IntKind.signed]
  rw [this]; omega
theorem low8 (s : Int) (hs : 0 ≤ s ∧ s < 18446744073709551616) : 0 ≤ wrap64 (bits BinOp.and IntKind.u64 (s / 1099511627776) 255) ∧ wrap64 (bits BinOp.and IntKind.u64 (s / 1099511627776) 255) ≤ 255 := by
  rw [u64_and _ _ (by omega) (by omega) (by omega) (by omega)]
  have h := @Nat.and_le_right (s / 1099511627776).toNat (255 : Int).toNat
  generalize (s / 1099511627776).toNat &&& (255 : Int).toNat = z at *
  have : (255 : Int).toNat = 255 := rfl
  unfold wrap64
  omega
/-- a source in block g: its bytes as they lay in W0, how many choices it has made -/
structure Src (W0 : World) (g : Nat) (bs : List Int) (k : Nat) (w : World) : Prop where
  hb : Below W0.heap.size W0 w
  hg : W0.heap.size ≤ g
  cells : ∃ a cap seed, RdB W0 (.slice a bs.length cap) bs ∧ w.cell? ⟨g, 0, none⟩ = some (.slice a bs.length cap) ∧ w.cell? ⟨g, 1, none⟩ = some (.int .i64 (k : Int)) ∧ w.cell? ⟨g, 2, none⟩ = some (.int .u64 seed) ∧ w.frozen? ⟨g, 1, none⟩ = false ∧ w.frozen? ⟨g, 2, none⟩ = false ∧ (0 ≤ seed ∧ seed < 18446744073709551616)
theorem Src.below {W0 a b : World} {g k : Nat} {bs : List Int} (h : Src W0 g bs k a) (hb : Below a.heap.size a b) : Src W0 g bs k b := by
  obtain ⟨h1, h2, ad, cap, seed, r, c0, c1, c2, f1, f2, sb⟩ := h
  exact ⟨h1.tr hb, h2, ad, cap, seed, r, keepc hb c0, keepc hb c1, keepc hb c2, frozenc hb c1 f1, frozenc hb c2 f2, sb⟩
theorem Src.upd {W0 a b : World} {g k lo hi : Nat} {bs : List Int} (h : Src W0 g bs k a) (hb : Upd lo hi a b) (hlo : W0.heap.size ≤ lo) (hd : g < lo ∨ hi ≤ g) : Src W0 g bs k b := by
  obtain ⟨h1, h2, ad, cap, seed, r, c0, c1, c2, f1, f2, sb⟩ := h
  have hgs := World.block_lt_of_cell? a _ c0
  have hcell := fun o => hb.cell g o hd hgs
  have hfr := fun o => hb.frozen g o hd hgs
  exact ⟨h1.trans (hb.below hlo h1.size), h2, ad, cap, seed, r, by rw [hcell]; exact c0, by rw [hcell]; exact c1, by rw [hcell]; exact c2, by rw [hfr]; exact f1, by rw [hfr]; exact f2, sb⟩
theorem Src.lt {W0 a : World} {g k : Nat} {bs : List Int} (h : Src W0 g bs k a) : g < a.heap.size := by
  obtain ⟨h1, h2, ad, cap, seed, r, c0, -⟩ := h
  exact World.block_lt_of_cell? a _ c0
theorem updFresh {lo hi n : Nat} {a b c : World} (h : Upd lo hi a b) (hg : b.grownBy c (some n)) (hn : a.heap.size ≤ n) : Upd lo hi a c :=
  ⟨hg.os.trans h.os, hg.tape.trans h.tape, hg.output.trans h.output, Nat.le_trans h.size hg.size, fun k hk hl => (hg.block k (Nat.lt_of_lt_of_le hl h.size) (fun e => by simp only [Option.some.injEq] at e; omega)).trans (h.block k hk hl)⟩
theorem pow_le_128 {H : Int} (hH : 1 ≤ H ∧ H ≤ 7) : (2 : Int) ^ H.toNat ≤ 128 := by
  have h : ∀ n : Nat, n ≤ 7 → (2 : Int) ^ n ≤ 128 := by decide
  exact h _ (by omega)
/-- the cells 1 and 2 of a block written -/
theorem setS (W : World) (g : Nat) (a b u0 u1 u2 : Value) (k0 : W.cell? ⟨g, 0, none⟩ = some u0) (k1 : W.cell? ⟨g, 1, none⟩ = some u1) (k2 : W.cell? ⟨g, 2, none⟩ = some u2) :
    ((W.setCell ⟨g, 1, none⟩ a).setCell ⟨g, 2, none⟩ b).cell? ⟨g, 0, none⟩ = some u0 ∧ ((W.setCell ⟨g, 1, none⟩ a).setCell ⟨g, 2, none⟩ b).cell? ⟨g, 1, none⟩ = some a ∧ ((W.setCell ⟨g, 1, none⟩ a).setCell ⟨g, 2, none⟩ b).cell? ⟨g, 2, none⟩ = some b ∧
    (∀ p, ((W.setCell ⟨g, 1, none⟩ a).setCell ⟨g, 2, none⟩ b).frozen? p = W.frozen? p) ∧ W.grownBy ((W.setCell ⟨g, 1, none⟩ a).setCell ⟨g, 2, none⟩ b) (some g) := by
  have hin : ∀ i, i < [a, b].length → (W.cell? ⟨g, 1 + i, none⟩).isSome = true := fun i hi => by
    simp only [List.length_cons, List.length_nil] at hi
    have : i = 0 ∨ i = 1 := by omega
    rcases this with rfl | rfl
    · rw [k1]; rfl
    · rw [k2]; rfl
  exact ⟨(World.cell?_setCells_out g [a, b] 1 W _ (fun _ _ => Or.inl (by simp))).trans k0, World.cell?_setCells_in g [a, b] 1 W hin 0 (by simp), World.cell?_setCells_in g [a, b] 1 W hin 1 (by simp), fun p => frozen_setCells g p [a, b] 1 W, grownBy_setCells W g [a, b] 1⟩
theorem Src.step {W0 W : World} {g k : Nat} {bs : List Int} (h : Src W0 g bs k W) (n s : Int) (hn : n = (k + 1 : Nat)) (hs : 0 ≤ s ∧ s < 18446744073709551616) : Src W0 g bs (k + 1) ((W.setCell ⟨g, 1, none⟩ (.int .i64 n)).setCell ⟨g, 2, none⟩ (.int .u64 s)) ∧ Upd g (g + 1) W ((W.setCell ⟨g, 1, none⟩ (.int .i64 n)).setCell ⟨g, 2, none⟩ (.int .u64 s)) := by
  obtain ⟨h1, h2, ad, cap, seed, r, c0, c1, c2, f1, f2, sb⟩ := h
  obtain ⟨d0, d1, d2, hf, hg⟩ := setS W g (.int .i64 n) (.int .u64 s) _ _ _ c0 c1 c2
  exact ⟨⟨(h1.setCell h2 _).setCell h2 _, h2, ad, cap, s, r, d0, by rw [d1, hn], d2, by rw [hf]; exact f1, by rw [hf]; exact f2, hs⟩, Upd.of_grown hg (fun k hk => by simp only [Option.some.injEq] at hk; omega)⟩
theorem c_spec_l00Src_next (W0 : World) (g k : Nat) (bs : List Int) (w : World) (h : Src W0 g bs k w) (hk : k < 1000000000) :
    Calls Tryz.prog 70 #[.pointer (some ⟨g, 0, none⟩)] w fun e w' => ∃ x : Int, e = .returned (.int .i64 x) ∧ 0 ≤ x ∧ x ≤ 255 ∧ Src W0 g bs (k + 1) w' ∧ Upd g (g + 1) w w' := by
  have h' := h
  obtain ⟨hb, hg, ad, cap, seed, ⟨a', cap', hv, hl, hc, hr⟩, c0, c1, c2, f1, f2, sb⟩ := h'
  obtain ⟨rfl, -, rfl⟩ : ad = a' ∧ bs.length = bs.length ∧ cap = cap' := by simpa using hv
  by_cases hlt : k < bs.length
  · obtain ⟨b, off, rfl, hx⟩ := hc k hlt
    have hx := keepc hb hx
    have hb0 := hr k
    clear hc hr hv
    generalize bs.getD k 0 = y at *
    have hg1 : (k : Int) < (bs.length : Int) := by omega
    have hg2 : (k : Int) + 1 ≤ (bs.length : Int) := by omega
    have hk0 : (0 : Int) ≤ (k : Int) := by omega
    have key : ∀ n sd, (0 ≤ sd ∧ sd < 18446744073709551616) → Src W0 g bs (k + 1) (((w.drewN n).setCell ⟨g, 1, none⟩ (.int .i64 ((k : Int) + 1))).setCell ⟨g, 2, none⟩ (.int .u64 sd)) ∧ Upd g (g + 1) w (((w.drewN n).setCell ⟨g, 1, none⟩ (.int .i64 ((k : Int) + 1))).setCell ⟨g, 2, none⟩ (.int .u64 sd)) := fun n sd hs => by
      have U1 : Upd g (g + 1) w (w.drewN n) := Upd.of_below ((Below.refl _ _).drN n)
      obtain ⟨S2, U2⟩ := (h.below ((Below.refl _ _).drN n)).step ((k : Int) + 1) sd (by simp) hs
      exact ⟨S2, U1.trans U2⟩
    go_enter Tryz.func70, Tryz.ntmps70
    go_wp2
    go_quiet (fail)
    obtain ⟨nq0, rfl⟩ : ∃ n0, n0 = nq := ⟨_, rfl⟩
    go_wp2
    go_quiet (fail)
    go_wp2
    have hsd := u64_bd (IntKind.u64.wrap (IntKind.u64.wrap (seed * 6364136223846793005) + y) + 1442695040888963407)
    generalize IntKind.u64.wrap (IntKind.u64.wrap (IntKind.u64.wrap (seed * 6364136223846793005) + y) + 1442695040888963407) = sd at *
    obtain ⟨S2, U2⟩ := key (nq0 + nq) sd hsd
    generalize (((w.drewN (nq0 + nq)).setCell ⟨g, 1, none⟩ (.int .i64 ((k : Int) + 1))).setCell ⟨g, 2, none⟩ (.int .u64 sd)) = w2 at *
    have SS := S2
    obtain ⟨-, -, ad', cap', sd', ⟨a', cap'', hv, -, -, -⟩, d0, d1, d2, -, -, sb2⟩ := S2
    clear c0 c1 c2 f1 f2
    go_quiet (fail)
    go_wp2
    go_ret
    exact ⟨y, rfl, hb0.1, hb0.2, SS.below ((Below.refl _ _).drN _), U2.trans (Upd.of_below ((Below.refl _ _).drN _))⟩
  · have hg1 : ¬ (k : Int) < (bs.length : Int) := by omega
    have hg2 : ¬ (k : Int) + 1 ≤ (bs.length : Int) := by omega
    have key : ∀ n sd, (0 ≤ sd ∧ sd < 18446744073709551616) → Src W0 g bs (k + 1) (((w.drewN n).setCell ⟨g, 1, none⟩ (.int .i64 ((k : Int) + 1))).setCell ⟨g, 2, none⟩ (.int .u64 sd)) ∧ Upd g (g + 1) w (((w.drewN n).setCell ⟨g, 1, none⟩ (.int .i64 ((k : Int) + 1))).setCell ⟨g, 2, none⟩ (.int .u64 sd)) := fun n sd hs => by
      have U1 : Upd g (g + 1) w (w.drewN n) := Upd.of_below ((Below.refl _ _).drN n)
      obtain ⟨S2, U2⟩ := (h.below ((Below.refl _ _).drN n)).step ((k : Int) + 1) sd (by simp) hs
      exact ⟨S2, U1.trans U2⟩
    clear hc hr
    go_enter Tryz.func70, Tryz.ntmps70
    go_wp2
    go_quiet (fail)
    go_wp2
    have hsd := u64_bd (IntKind.u64.wrap (IntKind.u64.wrap (seed * 6364136223846793005)) + 1442695040888963407)
    generalize IntKind.u64.wrap (IntKind.u64.wrap (IntKind.u64.wrap (seed * 6364136223846793005)) + 1442695040888963407) = sd at *
    obtain ⟨S2, U2⟩ := key nq sd hsd
    generalize (((w.drewN nq).setCell ⟨g, 1, none⟩ (.int .i64 ((k : Int) + 1))).setCell ⟨g, 2, none⟩ (.int .u64 sd)) = w2 at *
    have SS := S2
    obtain ⟨-, -, ad', cap', sd', ⟨a', cap'', hv, -, -, -⟩, d0, d1, d2, -, -, sb2⟩ := S2
    clear c0 c1 c2 f1 f2
    go_quiet (fail)
    go_wp2
    have hlow := low8 sd' sb2
    generalize wrap64 (bits BinOp.and IntKind.u64 (sd' / 1099511627776) 255) = x at *
    go_ret
    exact ⟨x, rfl, hlow.1, hlow.2, SS.below ((Below.refl _ _).drN _), U2.trans (Upd.of_below ((Below.refl _ _).drN _))⟩
theorem c_spec_l00Src_pick (W0 : World) (g k : Nat) (bs : List Int) (n : Int) (w : World) (h : Src W0 g bs k w) (hk : k < 1000000) (hn : n ≤ 100000) :
    Calls Tryz.prog 33 #[.pointer (some ⟨g, 0, none⟩), .int .i64 n] w fun e w' => ∃ (x : Int) (k' : Nat), e = .returned (.int .i64 x) ∧ 0 ≤ x ∧ (1 ≤ n → x < n) ∧ (n < 1 → x = 0) ∧ k' ≤ k + 2 ∧ Src W0 g bs k' w' ∧ Upd g (g + 1) w w' := by
  by_cases h1 : n ≤ 1
  · go_enter Tryz.func33, Tryz.ntmps33
    go_wp2
    go_ret
    exact ⟨0, k, rfl, by omega, by omega, by omega, by omega, h, Upd.of_below (Below.refl _ _)⟩
  · have hm := fun y => Int.emod_lt_of_pos y (show 0 < n by omega)
    have hm0 := fun y => Int.emod_nonneg y (show n ≠ 0 by omega)
    by_cases h2 : n > 200
    · go_enter Tryz.func33, Tryz.ntmps33
      go_wp2_with (first
        | (go_at_call 70; refine (c_spec_l00Src_next W0 g k bs _ h (by omega)).mono ?_; rintro e w1 ⟨x, rfl, hx0, hx1, S1, U1⟩)
        | (go_at_call 70; refine (c_spec_l00Src_next W0 g (k + 1) bs _ S1 (by omega)).mono ?_; rintro e w2 ⟨y, rfl, hy0, hy1, S2, U2⟩))
      go_ret
      exact ⟨(x * 256 + y) % n, k + 1 + 1, rfl, hm0 _, fun _ => hm _, by omega, by omega, S2, U1.trans U2⟩
    · go_enter Tryz.func33, Tryz.ntmps33
      go_wp2_with (first
        | (go_at_call 70; refine (c_spec_l00Src_next W0 g k bs _ h (by omega)).mono ?_; rintro e w1 ⟨x, rfl, hx0, hx1, S1, U1⟩))
      go_ret
      exact ⟨x % n, k + 1, rfl, hm0 _, fun _ => hm _, by omega, by omega, S1, U1⟩
theorem c_spec_l00From (bs : List Int) (v : Value) (w : World) (h : RdB w v bs) :
    Calls Tryz.prog 30 #[v] w fun e w' => e = .returned (.pointer (some ⟨w.heap.size, 0, none⟩)) ∧ Src w w.heap.size bs 0 w' ∧ Below w.heap.size w w' := by
  have h' := h
  obtain ⟨a, cap, rfl, hl, hc, hr⟩ := h'
  go_enter Tryz.func30, Tryz.ntmps30
  go_wp2
  go_ret
  refine ⟨rfl, ⟨(Below.refl _ _).al _, Nat.le_refl _, a, cap, 0, h, World.cell?_alloc_at _ _ _ _ rfl, World.cell?_alloc_at _ _ _ _ rfl, World.cell?_alloc_at _ _ _ _ rfl, by go_simp, by go_simp, by omega⟩, (Below.refl _ _).al _⟩
set_option maxRecDepth 100000 in
theorem c_spec_l08Draw (W0 : World) (g k : Nat) (bs : List Int) (w : World) (h : Src W0 g bs k w) (hk : k < 100000) :
    Calls Tryz.prog 67 #[.pointer (some ⟨g, 0, none⟩)] w fun e w' => ∃ (H m : Int) (k' : Nat), e = .returned (.agg #[.int .i64 H, .int .i64 m]) ∧ (1 ≤ H ∧ H ≤ 7) ∧ (0 ≤ m ∧ m < 2 ^ H.toNat) ∧ k' ≤ k + 4 ∧ Src W0 g bs k' w' ∧ Upd g (g + 1) w w' := by
  go_enter Tryz.func67, Tryz.ntmps67
  go_wp2_with (first
    | (go_at_call 33; refine (c_spec_l00Src_pick W0 g k bs 7 _ (h.below ((Below.refl _ _).al _)) (by omega) (by omega)).mono ?_; rintro e w1 ⟨x, k1, rfl, hx0, hx1, -, hk1, S1, U1⟩; have hx7 := hx1 (by omega); refine stop_of ?_))
  unfold Stopped
  clear hx1
  obtain ⟨H, HH⟩ : ∃ H, 1 + x = H := ⟨_, rfl⟩
  have hH : 1 ≤ H ∧ H ≤ 7 := by omega
  have hp := pow_le_128 hH
  have hp1 := pow_pos_int H.toNat
  have hw : wrap64 (2 ^ H.toNat) = 2 ^ H.toNat := by unfold wrap64; omega
  have hgl : g < w.heap.size := h.lt
  go_wp2_with (go_at_call 33; refine stop_of ?_)
  unfold Stopped
  clear hw
  obtain ⟨N, hN⟩ : ∃ N, Hid ((2 : Int) ^ H.toNat = N) := ⟨_, rfl⟩
  rw [hN.out] at hp hp1 ⊢
  refine (c_spec_l00Src_pick W0 g k1 bs N _ S1 (by omega) (by omega)).mono ?_
  rintro e w2 ⟨m, k2, rfl, hm0, hm1, -, hk2, S2, U2⟩
  have hm2 := hm1 (by omega)
  clear hm1
  have UA := U1.trans U2
  have n0 : w2.cell? ⟨w.heap.size, 0, none⟩ = some (.int .i64 0) := by rw [UA.cell _ _ (Or.inr hgl) (by simp)]; exact World.cell?_alloc_at _ _ _ _ rfl
  have n1 : w2.cell? ⟨w.heap.size, 1, none⟩ = some (.int .i64 0) := by rw [UA.cell _ _ (Or.inr hgl) (by simp)]; exact World.cell?_alloc_at _ _ _ _ rfl
  have f0 : w2.frozen? ⟨w.heap.size, 0, none⟩ = false := by rw [UA.frozen _ _ (Or.inr hgl) (by simp)]; go_simp
  have f1 : w2.frozen? ⟨w.heap.size, 1, none⟩ = false := by rw [UA.frozen _ _ (Or.inr hgl) (by simp)]; go_simp
  have UB : Upd g (g + 1) w w2 := (Upd.of_below ((Below.refl _ _).al _)).trans UA
  obtain ⟨W, HW⟩ : ∃ W, W = (w2.setCell ⟨w.heap.size, 0, none⟩ (.int .i64 H)).setCell ⟨w.heap.size, 1, none⟩ (.int .i64 m) := ⟨_, rfl⟩
  obtain ⟨N0, N1, hF, hG⟩ := set2 w2 w.heap.size (.int .i64 H) (.int .i64 m) _ _ n0 n1
  rw [← HW] at N0 N1 hG
  go_wp2
  rw [← HW]
  have SW := S2.upd (Upd.of_grown (lo := w.heap.size) (hi := w.heap.size + 1) hG (fun k hk => by simp only [Option.some.injEq] at hk; omega)) h.hb.size (Or.inl hgl)
  have UW := updFresh UB hG (Nat.le_refl _)
  refine bodyPost_ret (v := .agg #[.int .i64 H, .int .i64 m]) (by simp [results, Tryz.results67, go_sem, N0, N1]) rfl ⟨H, m, k2, rfl, hH, ⟨hm0, by rw [hN.out]; exact hm2⟩, by omega, SW, UW⟩
end Go.Proofs.YtioemkdapoombaaGreatDoor
