/- Contracts: conversion of frames, SameFrame. -/
import Derived.Test.YtddfdppoclnpcaaDoorCmpD
import Derived.Test.YtddfdppoclnpcaaDoorMemC
namespace Go.Proofs.YtddfdppoclnpcaaDoor
open Go.ChangeShapes Go.WideShapes Go.ChangeAt Go.RowKit
set_option linter.unusedVariables false
set_option linter.unusedSimpArgs false
theorem infoDot : (Tryd.prog.info? 35).map (fun i => (i.zero, i.size, i.bytes)) = some (some (.agg #[.int .i64 0, .int .i64 0, .int .i64 0, .int .i64 0, .int .i64 0]), 5, 40) := by kernel_rfl
set_option maxHeartbeats 2000000 in
set_option maxRecDepth 100000 in
theorem c_laws_toDotS (xs : List Dot5) (v : Value) (w : World) (h : RdRow 5 rowD w v xs) (hn : xs.length ≤ 1048576) :
    Calls Tryd.prog 42 #[v] w fun e w' => e = .returned (.slice (some ⟨w.heap.size, 0, none⟩) xs.length xs.length) ∧ RdRow 5 rowD w' (.slice (some ⟨w.heap.size, 0, none⟩) xs.length xs.length) xs ∧ Below w.heap.size w w' := by
  have h' := h
  obtain ⟨a1, cap1, rfl, hl1, _⟩ := h'
  go_enter Tryd.func42, Tryd.ntmps42
  go_wp2_with (at_make; refine make_cells rfl _ _ _ _ rfl Tryd.underlying43 _ _ _ infoDot (by decide) w.heap.size _ _ _ _ _ xs.length rfl rfl rfl rfl (by omega) (Nat.le_refl _) ?_; intro w1 hcells hbel hsz)
  have hb1 := hbel w (Below.refl _ _)
  have hF1 : FilledTo 5 rowD w1 w.heap.size xs 0 := fun i hi h0 => by omega
  clear hbel hsz
  go_loopw [4] (fun i wr => ∃ k : Nat, k ≤ xs.length ∧ i = .int .i64 k ∧ CellsAt wr w.heap.size (xs.length * 5) ∧ FilledTo 5 rowD wr w.heap.size xs k ∧ Below w.heap.size w wr) (fun i _ => xs.length - (intOf i).toNat)
  case atStart => exact ⟨0, by omega, rfl, hcells, hF1, hb1⟩
  case round =>
    clear hcells hF1 hb1
    obtain ⟨k, hk, rfl, hC, hF, hb⟩ := hrel
    by_cases hlt : k < xs.length
    · obtain ⟨b1, o1, rfl, x0, x1, x2, x3, x4⟩ := rdD_at (h.below hb) k hlt
      obtain ⟨⟨p, hh, n, d, y⟩, HX⟩ : ∃ x, Hid (xs[k] = x) := ⟨xs[k], Lib.hid rfl⟩
      rw [HX.out] at x0 x1 x2 x3 x4
      dsimp only at x0 x1 x2 x3 x4
      have hin0 : (0 : Int) ≤ (k : Int) := Int.natCast_nonneg _
      have hin1 : (k : Int) < (xs.length : Int) := by omega
      go_wp2_with fail
      refine (c_laws_toDot p hh n d y _).mono ?_; rintro e w2 ⟨rfl, hb2⟩
      have hC2 := hC.below hb2
      obtain ⟨⟨u0, q0⟩, f0⟩ := hC2 (k * 5) (by omega)
      obtain ⟨⟨u1, q1⟩, f1⟩ := hC2 (k * 5 + 1) (by omega)
      obtain ⟨⟨u2, q2⟩, f2⟩ := hC2 (k * 5 + 2) (by omega)
      obtain ⟨⟨u3, q3⟩, f3⟩ := hC2 (k * 5 + 3) (by omega)
      obtain ⟨⟨u4, q4⟩, f4⟩ := hC2 (k * 5 + 4) (by omega)
      have hS := Lib.hid (fill_step rowD_len hC2 (hF.below hb2) hlt ((((((w2.setCell ⟨w.heap.size, k * 5, none⟩ (.int .i64 p)).setCell ⟨w.heap.size, k * 5 + 1, none⟩ (.int .i64 hh)).setCell ⟨w.heap.size, k * 5 + 2, none⟩ (.int .i64 n)).setCell ⟨w.heap.size, k * 5 + 3, none⟩ (.int .i64 d)).setCell ⟨w.heap.size, k * 5 + 4, none⟩ (.int .i64 y))) (by rw [HX.out]; rfl))
      have B2 := hb.tr hb2
      clear h hC hF hC2
      go_wp2_with fail
      go_roundw
      case rel => exact ⟨k + 1, by omega, by go_num, hS.out.1, hS.out.2.1, B2.grown hS.out.2.2 B2.size (fun j hj => by simp only [Option.some.injEq] at hj; omega)⟩
      case measure => simp [intOf]; omega
    · obtain rfl : k = xs.length := by omega
      have hrd := hF.rd (cap := xs.length) (by omega)
      go_wp2
      go_ret
      exact ⟨rfl, hrd, hb⟩
theorem rd_setFar {α : Type} {sz : Nat} {row : α → List Value} {w : World} {g o n c : Nat} {xs : List α} (h : RdRow sz row w (.slice (some ⟨g, o, none⟩) n c) xs) {p : Addr} (u : Value) (hp : p.block ≠ g) : RdRow sz row (w.setCell p u) (.slice (some ⟨g, o, none⟩) n c) xs := by
  obtain ⟨a, cap, he, hl, hc⟩ := h
  cases he
  refine ⟨_, _, rfl, hl, fun k hk => ?_⟩
  obtain ⟨b, off, ha, hx⟩ := hc k hk
  cases ha
  exact ⟨_, _, rfl, fun c u hu => (World.cell?_setCell_far _ _ _ _ hp).trans (hx c u hu)⟩
set_option maxRecDepth 100000 in
theorem c_laws_toFrame (xs : List Dot5) (t : Int) (v : Value) (w : World) (h : RdRow 5 rowD w v xs) (hn : xs.length ≤ 1048576) :
    Calls Tryd.prog 16 #[.agg #[.int .i64 t, v]] w fun e w' => ∃ g, e = .returned (.agg #[.int .i64 t, .slice (some ⟨g, 0, none⟩) xs.length xs.length]) ∧ RdRow 5 rowD w' (.slice (some ⟨g, 0, none⟩) xs.length xs.length) xs ∧ Below w.heap.size w w' := by
  have h' := h
  obtain ⟨a1, cap1, rfl, hl1, _⟩ := h'
  go_enter Tryd.func16, Tryd.ntmps16
  go_wp2_with fail
  refine (c_laws_toDotS xs _ _ (h.below (by (repeat (first | (with_reducible assumption) | (with_reducible exact Below.refl _ _) | (with_reducible refine Below.setCell ?_ (by first | (simp; done) | (simp; omega)) _) | (with_reducible refine Below.al ?_ _) | (with_reducible refine Below.dr ?_) | (with_reducible refine Below.drN ?_ _) | (with_reducible refine Below.tr ?_ (by with_reducible assumption)))))) hn).mono ?_; rintro e w1 ⟨rfl, hrd, hb1⟩; obtain ⟨hc1, hf1⟩ := bcell hb1; have hz1_0 : w.heap.size < w1.heap.size := Nat.lt_of_lt_of_le (by first | omega | (simp; done) | (simp; omega)) hb1.size; have hz1_1 : w.heap.size + 1 < w1.heap.size := Nat.lt_of_lt_of_le (by first | omega | (simp; done) | (simp; omega)) hb1.size; have hz1_2 : w.heap.size + 1 + 1 < w1.heap.size := Nat.lt_of_lt_of_le (by first | omega | (simp; done) | (simp; omega)) hb1.size
  go_wp2
  refine bodyPost_ret (v := .agg #[.int .i64 t, .slice (some ⟨w.heap.size + 1 + 1 + 1, 0, none⟩) xs.length xs.length]) (by simp [results, Tryd.results16, go_sem, hc1]) rfl ⟨_, rfl, ?_, ?_⟩
  · have hrd' : RdRow 5 rowD w1 (.slice (some ⟨w.heap.size + 1 + 1 + 1, 0, none⟩) xs.length xs.length) xs := by simpa using hrd
    exact rd_setFar (rd_setFar (rd_setFar hrd' _ (by show w.heap.size + 1 + 1 ≠ _; omega)) _ (by show w.heap.size + 1 ≠ _; omega)) _ (by show w.heap.size + 1 ≠ _; omega)
  · (repeat (first | (with_reducible assumption) | (with_reducible exact Below.refl _ _) | (with_reducible refine Below.setCell ?_ (by first | (simp; done) | (simp; omega)) _) | (with_reducible refine Below.al ?_ _) | (with_reducible refine Below.dr ?_) | (with_reducible refine Below.drN ?_ _) | (with_reducible refine Below.tr ?_ (by with_reducible assumption))))
def sameFrameB (t : Int) (xs : List Dot5) (t' : Int) (ys : List Dot5) : Bool := decide (t = t' ∧ xs = ys)
theorem frame_step {xs ys : List Dot5} {k : Nat} (h1 : k < xs.length) (h2 : k < ys.length) (he : xs.take k = ys.take k) (hx : xs[k] = ys[k]) : xs.take (k + 1) = ys.take (k + 1) := by
  rw [List.take_add_one, List.take_add_one, he, List.getElem?_eq_getElem h1, List.getElem?_eq_getElem h2, hx]
end Go.Proofs.YtddfdppoclnpcaaDoor
