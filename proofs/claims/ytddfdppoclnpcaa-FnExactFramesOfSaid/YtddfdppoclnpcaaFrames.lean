/- Contracts of the laws' helpers on frames: sz, to, eq of dots. -/
import Derived.Test.YtddfdppoclnpcaaLawI
import Derived.Test.YtddfdppoclnpcaaArgs
import Derived.Test.YtddfdppoclnpcaaLawC
import Derived.Test.YtddfdppoclnpcaaMemR
import Derived.Test.YtddfdppoclnpcaaDot5
import Derived.Deep.RegionHeld3
namespace Go.Proofs.Ytddfdppoclnpcaa
open Go.ChangeShapes Go.WideShapes Go.ChangeAt Go.RowKit
set_option linter.unusedVariables false
def szLeftD (left len : Int) : Int := if left - len < 0 then -1 else left - len
theorem szLeftD_neg {left len : Int} (h : left - len < 0) : szLeftD left len = -1 := if_pos h
theorem szLeftD_pos {left len : Int} (h : ¬ left - len < 0) : szLeftD left len = left - len := if_neg h
theorem c_laws_eqFraction (b d : Int) (w : World) :
    Calls Try.prog 72 #[.agg #[.int .i64 b, .int .i64 d], .agg #[.int .i64 b, .int .i64 d]] w fun e w' => e = .returned (.bool true) ∧ Below w.heap.size w w' := by
  have t1 : (b != b) = false := by simp
  have t2 : (d != d) = false := by simp
  go_enter Try.func72, Try.ntmps72
  go_wp2
  go_ret
  exact ⟨rfl, by (repeat (first | (with_reducible assumption) | (with_reducible exact Below.refl _ _) | (with_reducible refine Below.setCell ?_ (by first | (simp; done) | (simp; omega)) _) | (with_reducible refine Below.al ?_ _) | (with_reducible refine Below.dr ?_) | (with_reducible refine Below.drN ?_ _) | (with_reducible refine Below.tr ?_ (by with_reducible assumption))))⟩
def aggD (p h n d y : Int) : Value := .agg #[.int .i64 p, .int .i64 h, .int .i64 n, .int .i64 d, .int .i64 y]
theorem c_laws_eqDot (p h n d y : Int) (w : World) :
    Calls Try.prog 31 #[.agg #[.int .i64 p, .int .i64 h, .int .i64 n, .int .i64 d, .int .i64 y], .agg #[.int .i64 p, .int .i64 h, .int .i64 n, .int .i64 d, .int .i64 y]] w fun e w' => e = .returned (.bool true) ∧ Below w.heap.size w w' := by
  have t1 : (p != p) = false := by simp
  have t2 : (h != h) = false := by simp
  have t3 : (y != y) = false := by simp
  go_enter Try.func31, Try.ntmps31
  go_wp2_with fail
  refine (c_laws_eqFraction _ _ _).mono ?_; rintro e w1 ⟨rfl, hb1⟩; obtain ⟨hc1, hf1⟩ := bcell hb1; have hz1_0 : w.heap.size < w1.heap.size := Nat.lt_of_lt_of_le (by first | omega | (simp; done) | (simp; omega)) hb1.size; have hz1_1 : w.heap.size + 1 < w1.heap.size := Nat.lt_of_lt_of_le (by first | omega | (simp; done) | (simp; omega)) hb1.size
  go_wp2
  go_ret
  exact ⟨rfl, by (repeat (first | (with_reducible assumption) | (with_reducible exact Below.refl _ _) | (with_reducible refine Below.setCell ?_ (by first | (simp; done) | (simp; omega)) _) | (with_reducible refine Below.al ?_ _) | (with_reducible refine Below.dr ?_) | (with_reducible refine Below.drN ?_ _) | (with_reducible refine Below.tr ?_ (by with_reducible assumption))))⟩
theorem rdD_at {w : World} {a : Option Addr} {n cap : Nat} {xs : List Dot5} (h : RdRow 5 rowD w (.slice a n cap) xs) (k : Nat) (hk : k < xs.length) : ∃ b off, a = some ⟨b, off, none⟩ ∧
    w.cell? ⟨b, off + k * 5, none⟩ = some (.int .i64 xs[k].1) ∧ w.cell? ⟨b, off + k * 5 + 1, none⟩ = some (.int .i64 xs[k].2.1) ∧ w.cell? ⟨b, off + k * 5 + 2, none⟩ = some (.int .i64 xs[k].2.2.1) ∧ w.cell? ⟨b, off + k * 5 + 3, none⟩ = some (.int .i64 xs[k].2.2.2.1) ∧ w.cell? ⟨b, off + k * 5 + 4, none⟩ = some (.int .i64 xs[k].2.2.2.2) := by
  obtain ⟨a', cap', he, _, hc⟩ := h
  cases he
  obtain ⟨b, off, ha, hx⟩ := hc k hk
  refine ⟨b, off, ha, ?_, hx 1 _ rfl, hx 2 _ rfl, hx 3 _ rfl, hx 4 _ rfl⟩
  have h0 := hx 0 _ rfl
  rw [Nat.add_zero] at h0; exact h0
set_option maxHeartbeats 2000000 in
set_option maxRecDepth 100000 in
theorem c_laws_eqDotS (xs : List Dot5) (v1 v2 : Value) (w : World) (h1 : RdRow 5 rowD w v1 xs) (h2 : RdRow 5 rowD w v2 xs) :
    Calls Try.prog 73 #[v1, v2] w fun e w' => e = .returned (.bool true) ∧ Below w.heap.size w w' := by
  have h1' := h1
  have h2' := h2
  obtain ⟨a1, cap1, rfl, hl1, _⟩ := h1'
  obtain ⟨a2, cap2, rfl, _, _⟩ := h2'
  have hb0 : ((xs.length : Int) != (xs.length : Int)) = false := by simp
  go_enter Try.func73, Try.ntmps73
  go_wp2
  go_loopw [5] (fun i wr => ∃ k : Nat, k ≤ xs.length ∧ i = .int .i64 k ∧ Below w.heap.size w wr) (fun i _ => xs.length - (intOf i).toNat)
  case atStart => exact ⟨0, by omega, rfl, Below.refl _ _⟩
  case round =>
    obtain ⟨k, hk, rfl, hb⟩ := hrel
    obtain ⟨wo, rfl⟩ : ∃ wo : World, wo = wr := ⟨_, rfl⟩
    by_cases hlt : k < xs.length
    · obtain ⟨b1, o1, rfl, x0, x1, x2, x3, x4⟩ := rdD_at (h1.below hb) k hlt
      obtain ⟨b2, o2, rfl, y0, y1, y2, y3, y4⟩ := rdD_at (h2.below hb) k hlt
      generalize xs[k].1 = p at x0 y0
      generalize xs[k].2.1 = h at x1 y1
      generalize xs[k].2.2.1 = n at x2 y2
      generalize xs[k].2.2.2.1 = d at x3 y3
      generalize xs[k].2.2.2.2 = y at x4 y4
      have hin0 : (0 : Int) ≤ (k : Int) := Int.natCast_nonneg _
      have hin1 : (k : Int) < (xs.length : Int) := by omega
      have hs1 : b1 < wo.heap.size := World.block_lt_of_cell? wo _ x0
      have hs2 : b2 < wo.heap.size := World.block_lt_of_cell? wo _ y0
      clear h1 h2
      go_wp2_with fail
      go_region_held3 (fun w' => w'.cell? ⟨b1, o1 + k * 5, none⟩ = some (.int .i64 p) ∧ w'.cell? ⟨b1, o1 + k * 5 + 1, none⟩ = some (.int .i64 h) ∧ w'.cell? ⟨b1, o1 + k * 5 + 2, none⟩ = some (.int .i64 n) ∧ w'.cell? ⟨b1, o1 + k * 5 + 3, none⟩ = some (.int .i64 d) ∧ w'.cell? ⟨b1, o1 + k * 5 + 4, none⟩ = some (.int .i64 y) ∧ w'.cell? ⟨b2, o2 + k * 5, none⟩ = some (.int .i64 p) ∧ w'.cell? ⟨b2, o2 + k * 5 + 1, none⟩ = some (.int .i64 h) ∧ w'.cell? ⟨b2, o2 + k * 5 + 2, none⟩ = some (.int .i64 n) ∧ w'.cell? ⟨b2, o2 + k * 5 + 3, none⟩ = some (.int .i64 d) ∧ w'.cell? ⟨b2, o2 + k * 5 + 4, none⟩ = some (.int .i64 y))
        (go_keep)
        ((go_at_call 31; refine (c_laws_eqDot p h n d y _).mono ?_; rintro e w4 ⟨rfl, hb4⟩; have hb4' := below_drew hb4; obtain ⟨hc4, _⟩ := bcell hb4'))
      go_wp2
      go_roundw
      case rel => exact ⟨k + 1, by omega, by go_num, hb.tr hb4'⟩
      case measure => simp [intOf]; omega
    · go_wp2
      go_ret
      exact ⟨rfl, hb⟩
theorem c_laws_eqFrame (xs : List Dot5) (t : Int) (v1 v2 : Value) (w : World) (h1 : RdRow 5 rowD w v1 xs) (h2 : RdRow 5 rowD w v2 xs) :
    Calls Try.prog 36 #[.agg #[.int .i64 t, v1], .agg #[.int .i64 t, v2]] w fun e w' => e = .returned (.bool true) ∧ Below w.heap.size w w' := by
  have h1' := h1
  have h2' := h2
  obtain ⟨a1, cap1, rfl, hl1, _⟩ := h1'
  obtain ⟨a2, cap2, rfl, _, _⟩ := h2'
  have t1 : (t != t) = false := by simp
  go_enter Try.func36, Try.ntmps36
  go_wp2_with fail
  refine (c_laws_eqDotS xs _ _ _ (((h1.below (Below.refl _ _)).below ((Below.refl _ _).al _)).below ((Below.refl _ _).al _)) (((h2.below (Below.refl _ _)).below ((Below.refl _ _).al _)).below ((Below.refl _ _).al _))).mono ?_; rintro e w1 ⟨rfl, hb1⟩
  go_wp2
  go_ret
  exact ⟨rfl, by (repeat (first | (with_reducible assumption) | (with_reducible exact Below.refl _ _) | (with_reducible refine Below.setCell ?_ (by first | (simp; done) | (simp; omega)) _) | (with_reducible refine Below.al ?_ _) | (with_reducible refine Below.dr ?_) | (with_reducible refine Below.drN ?_ _) | (with_reducible refine Below.tr ?_ (by with_reducible assumption))))⟩
end Go.Proofs.Ytddfdppoclnpcaa
