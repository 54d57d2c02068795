/- The law FnExactSameDesk returns true for all desks. No condition. -/
import Derived.Test.YtcohceopahhacaaDesk
import Derived.Deep.RegionHeld3
namespace Go.Proofs.Ytcohceopahhacaa.fnExactSameDesk
open Go.ChangeShapes Go.WideShapes Go.ChangeAt Go.RowKit
set_option linter.unusedVariables false
theorem c_laws_toDesk' (xs : List Int) (b d wd : Int) (v : Value) (w : World) (h : RdI w v xs) (hn : xs.length ≤ 1048576) (w0 : World) (hw : Below w0.heap.size w0 w) :
    Calls Try.prog 30 #[.agg #[v, .int .i64 b, .int .i64 d, .int .i64 wd]] w fun e w' => ∃ g, e = .returned (.agg #[.slice (some ⟨g, 0, none⟩) xs.length xs.length, .int .i64 b, .int .i64 d, .int .i64 wd]) ∧ RdI w' (.slice (some ⟨g, 0, none⟩) xs.length xs.length) xs ∧ Below w0.heap.size w0 w' ∧ Below w.heap.size w w' :=
  (c_laws_toDesk xs b d wd v w h hn).mono fun _ _ ⟨g, he, ho, hb⟩ => ⟨g, he, ho.rd, hw.tr hb, hb⟩
set_option maxHeartbeats 4000000 in
theorem walk_small (xs ys : List Int) (b d wd b' d' wd' : Int) (a1 a2 : Option Addr) (cap1 cap2 : Nat) (w : World) (h1 : RdI w (.slice a1 xs.length cap1) xs) (h2 : RdI w (.slice a2 ys.length cap2) ys)
    (hx : (xs.length : Int) ≤ 1048576) (hy : (ys.length : Int) ≤ 1048576 - xs.length) :
    Calls Try.prog 7 #[.agg #[.slice a1 xs.length cap1, .int .i64 b, .int .i64 d, .int .i64 wd], .agg #[.slice a2 ys.length cap2, .int .i64 b', .int .i64 d', .int .i64 wd']] w fun e w' => e = .returned (.bool true) ∧ Below w.heap.size w w' := by
  have HL := Lib.hid (szLeft_pos (left := 1048576) (len := xs.length) (by omega))
  have t1 : ¬ szLeft 1048576 xs.length < 0 := by rw [HL.out]; omega
  have HL2 := Lib.hid (szLeft_pos (left := szLeft 1048576 xs.length) (len := ys.length) (by rw [HL.out]; omega))
  have t2 : ¬ szLeft (szLeft 1048576 xs.length) ys.length < 0 := by rw [HL2.out, HL.out]; omega
  have hl1 : (xs.length : Int) ≤ 9223372036854775807 := by omega
  have hl2 : (ys.length : Int) ≤ 9223372036854775807 := by omega
  have hb3 : 0 ≤ szLeft 1048576 xs.length ∧ szLeft 1048576 xs.length ≤ 1048576 := by rw [HL.out]; omega
  have hxn : xs.length ≤ 1048576 := by omega
  have hyn : ys.length ≤ 1048576 := by omega
  go_enter Try.func7, Try.ntmps7
  go_wp2_with fail
  refine (c_laws_szDesk _ _ _ _ _ _ _ _ hl1 (by omega)).mono ?_; rintro e w1 ⟨rfl, hb1⟩; obtain ⟨hc1, hf1⟩ := bcell hb1; have hz1_0 : w.heap.size < w1.heap.size := Nat.lt_of_lt_of_le (by first | omega | (simp; done) | (simp; omega)) hb1.size; have hz1_1 : w.heap.size + 1 < w1.heap.size := Nat.lt_of_lt_of_le (by first | omega | (simp; done) | (simp; omega)) hb1.size
  go_wp2_with fail
  refine (c_laws_szDesk _ _ _ _ _ _ _ _ hl2 hb3).mono ?_; rintro e w2 ⟨rfl, hb2⟩; obtain ⟨hc2, hf2⟩ := bcell hb2; have hz2_0 : w.heap.size < w2.heap.size := Nat.lt_of_lt_of_le (by first | omega | (simp; done) | (simp; omega)) hb2.size; have hz2_1 : w.heap.size + 1 < w2.heap.size := Nat.lt_of_lt_of_le (by first | omega | (simp; done) | (simp; omega)) hb2.size
  have B2 : Below w.heap.size w w2 := by (repeat (first | (with_reducible assumption) | (with_reducible exact Below.refl _ _) | (with_reducible refine Below.setCell ?_ (by first | (simp; done) | (simp; omega)) _) | (with_reducible refine Below.al ?_ _) | (with_reducible refine Below.dr ?_) | (with_reducible refine Below.drN ?_ _) | (with_reducible refine Below.tr ?_ (by with_reducible assumption))))
  have k0 : w2.cell? ⟨w.heap.size, 0, none⟩ = some (.slice a1 xs.length cap1) := by go_simp
  have k1 : w2.cell? ⟨w.heap.size, 1, none⟩ = some (.int .i64 b) := by go_simp
  have k2 : w2.cell? ⟨w.heap.size, 2, none⟩ = some (.int .i64 d) := by go_simp
  have k3 : w2.cell? ⟨w.heap.size, 3, none⟩ = some (.int .i64 wd) := by go_simp
  have k4 : w2.cell? ⟨w.heap.size + 1, 0, none⟩ = some (.slice a2 ys.length cap2) := by go_simp
  have k5 : w2.cell? ⟨w.heap.size + 1, 1, none⟩ = some (.int .i64 b') := by go_simp
  have k6 : w2.cell? ⟨w.heap.size + 1, 2, none⟩ = some (.int .i64 d') := by go_simp
  have k7 : w2.cell? ⟨w.heap.size + 1, 3, none⟩ = some (.int .i64 wd') := by go_simp
  clear hl1 hl2 hb3 hb2 hc2 hf2 hc1 hf1
  go_wp2_with fail
  go_region_held3 (fun w' => w'.cell? ⟨w.heap.size, 0, none⟩ = some (.slice a1 xs.length cap1) ∧ w'.cell? ⟨w.heap.size, 1, none⟩ = some (.int .i64 b) ∧ w'.cell? ⟨w.heap.size, 2, none⟩ = some (.int .i64 d) ∧ w'.cell? ⟨w.heap.size, 3, none⟩ = some (.int .i64 wd) ∧
      w'.cell? ⟨w.heap.size + 1, 0, none⟩ = some (.slice a2 ys.length cap2) ∧ w'.cell? ⟨w.heap.size + 1, 1, none⟩ = some (.int .i64 b') ∧ w'.cell? ⟨w.heap.size + 1, 2, none⟩ = some (.int .i64 d') ∧ w'.cell? ⟨w.heap.size + 1, 3, none⟩ = some (.int .i64 wd'))
    (go_keep)
    (first
      | (go_at_call_of 30 b; refine (c_laws_toDesk' xs b d wd _ _ (h1.below (by (repeat (first | (with_reducible assumption) | (with_reducible exact Below.refl _ _) | (with_reducible refine Below.setCell ?_ (by first | (simp; done) | (simp; omega)) _) | (with_reducible refine Below.al ?_ _) | (with_reducible refine Below.dr ?_) | (with_reducible refine Below.drN ?_ _) | (with_reducible refine Below.tr ?_ (by with_reducible assumption)))))) hxn w2 (by (repeat (first | (with_reducible assumption) | (with_reducible exact Below.refl _ _) | (with_reducible refine Below.setCell ?_ (by first | (simp; done) | (simp; omega)) _) | (with_reducible refine Below.al ?_ _) | (with_reducible refine Below.dr ?_) | (with_reducible refine Below.drN ?_ _) | (with_reducible refine Below.tr ?_ (by with_reducible assumption)))))).mono ?_; rintro e w3 ⟨g3, rfl, hr3, hB3, hb3⟩; obtain ⟨hc3, hf3⟩ := bcell hB3; have hz3_0 : w.heap.size < w3.heap.size := Nat.lt_of_lt_of_le (by first | omega | (simp; done) | (simp; omega)) hB3.size; have hz3_1 : w.heap.size + 1 < w3.heap.size := Nat.lt_of_lt_of_le (by first | omega | (simp; done) | (simp; omega)) hB3.size)
      | (go_at_call_of 30 b'; refine (c_laws_toDesk' ys b' d' wd' _ _ (h2.below (by (repeat (first | (with_reducible assumption) | (with_reducible exact Below.refl _ _) | (with_reducible refine Below.setCell ?_ (by first | (simp; done) | (simp; omega)) _) | (with_reducible refine Below.al ?_ _) | (with_reducible refine Below.dr ?_) | (with_reducible refine Below.drN ?_ _) | (with_reducible refine Below.tr ?_ (by with_reducible assumption)))))) hyn w2 (by (repeat (first | (with_reducible assumption) | (with_reducible exact Below.refl _ _) | (with_reducible refine Below.setCell ?_ (by first | (simp; done) | (simp; omega)) _) | (with_reducible refine Below.al ?_ _) | (with_reducible refine Below.dr ?_) | (with_reducible refine Below.drN ?_ _) | (with_reducible refine Below.tr ?_ (by with_reducible assumption)))))).mono ?_; rintro e w4 ⟨g4, rfl, hr4, hB4, hb4⟩; obtain ⟨hc4, hf4⟩ := bcell hB4; have hz4_0 : w.heap.size < w4.heap.size := Nat.lt_of_lt_of_le (by first | omega | (simp; done) | (simp; omega)) hB4.size; have hz4_1 : w.heap.size + 1 < w4.heap.size := Nat.lt_of_lt_of_le (by first | omega | (simp; done) | (simp; omega)) hB4.size)
      | (go_at_call 29; refine (c_spec_SameDesk xs ys b d wd b' d' wd' _ _ _ (hr3.below hb4) hr4).mono ?_; rintro e w5 ⟨rfl, hb5⟩; have hB5 : Below w2.heap.size w2 w5 := hB4.tr hb5; obtain ⟨hc5, hf5⟩ := bcell hB5; have hz5_0 : w.heap.size < w5.heap.size := Nat.lt_of_lt_of_le (by first | omega | (simp; done) | (simp; omega)) hB5.size; have hz5_1 : w.heap.size + 1 < w5.heap.size := Nat.lt_of_lt_of_le (by first | omega | (simp; done) | (simp; omega)) hB5.size))
  go_wp2_with fail
  refine (c_laws_toDesk' xs b d wd _ _ (h1.below (by (repeat (first | (with_reducible assumption) | (with_reducible exact Below.refl _ _) | (with_reducible refine Below.setCell ?_ (by first | (simp; done) | (simp; omega)) _) | (with_reducible refine Below.al ?_ _) | (with_reducible refine Below.dr ?_) | (with_reducible refine Below.drN ?_ _) | (with_reducible refine Below.tr ?_ (by with_reducible assumption)))))) hxn w2 (by (repeat (first | (with_reducible assumption) | (with_reducible exact Below.refl _ _) | (with_reducible refine Below.setCell ?_ (by first | (simp; done) | (simp; omega)) _) | (with_reducible refine Below.al ?_ _) | (with_reducible refine Below.dr ?_) | (with_reducible refine Below.drN ?_ _) | (with_reducible refine Below.tr ?_ (by with_reducible assumption)))))).mono ?_; rintro e w6 ⟨g6, rfl, hr6, hB6, hb6⟩; obtain ⟨hc6, hf6⟩ := bcell hB6; have hz6_0 : w.heap.size < w6.heap.size := Nat.lt_of_lt_of_le (by first | omega | (simp; done) | (simp; omega)) hB6.size; have hz6_1 : w.heap.size + 1 < w6.heap.size := Nat.lt_of_lt_of_le (by first | omega | (simp; done) | (simp; omega)) hB6.size
  go_wp2_with fail
  refine (c_laws_toDesk' ys b' d' wd' _ _ (h2.below (by (repeat (first | (with_reducible assumption) | (with_reducible exact Below.refl _ _) | (with_reducible refine Below.setCell ?_ (by first | (simp; done) | (simp; omega)) _) | (with_reducible refine Below.al ?_ _) | (with_reducible refine Below.dr ?_) | (with_reducible refine Below.drN ?_ _) | (with_reducible refine Below.tr ?_ (by with_reducible assumption)))))) hyn w2 (by (repeat (first | (with_reducible assumption) | (with_reducible exact Below.refl _ _) | (with_reducible refine Below.setCell ?_ (by first | (simp; done) | (simp; omega)) _) | (with_reducible refine Below.al ?_ _) | (with_reducible refine Below.dr ?_) | (with_reducible refine Below.drN ?_ _) | (with_reducible refine Below.tr ?_ (by with_reducible assumption)))))).mono ?_; rintro e w7 ⟨g7, rfl, hr7, hB7, hb7⟩; obtain ⟨hc7, hf7⟩ := bcell hB7; have hz7_0 : w.heap.size < w7.heap.size := Nat.lt_of_lt_of_le (by first | omega | (simp; done) | (simp; omega)) hB7.size; have hz7_1 : w.heap.size + 1 < w7.heap.size := Nat.lt_of_lt_of_le (by first | omega | (simp; done) | (simp; omega)) hB7.size
  obtain ⟨hcb7, _⟩ := bcell hb7
  have hz67 : w6.heap.size < w7.heap.size := Nat.lt_of_lt_of_le (by simp) hb7.size
  go_wp2_with fail
  refine (c_impl_SameDesk xs ys b d wd b' d' wd' _ _ _ (((hr6.below ((Below.refl _ _).al _)).below hb7).below ((Below.refl _ _).al _)) (hr7.below ((Below.refl _ _).al _))).mono ?_; rintro e w8 ⟨rfl, hb8⟩
  have hB8 : Below w2.heap.size w2 w8 := (hB7.al _).tr hb8
  obtain ⟨hc8, hf8⟩ := bcell hB8; have hz8_0 : w.heap.size < w8.heap.size := Nat.lt_of_lt_of_le (by first | omega | (simp; done) | (simp; omega)) hB8.size; have hz8_1 : w.heap.size + 1 < w8.heap.size := Nat.lt_of_lt_of_le (by first | omega | (simp; done) | (simp; omega)) hB8.size
  obtain ⟨hcb8, _⟩ := bcell hb8
  have hz78 : w7.heap.size < w8.heap.size := Nat.lt_of_lt_of_le (by simp) hb8.size
  have hz68 : w6.heap.size < w8.heap.size := by omega
  have tt : (sameDeskB xs b d wd ys b' d' wd' != sameDeskB xs b d wd ys b' d' wd') = false := by simp
  go_wp2_with fail
  have m0 : w8.cell? ⟨w6.heap.size, 0, none⟩ = some (.slice (some ⟨g6, 0, none⟩) xs.length xs.length) := by go_simp
  have m1 : w8.cell? ⟨w6.heap.size, 1, none⟩ = some (.int .i64 b) := by go_simp
  have m2 : w8.cell? ⟨w6.heap.size, 2, none⟩ = some (.int .i64 d) := by go_simp
  have m3 : w8.cell? ⟨w6.heap.size, 3, none⟩ = some (.int .i64 wd) := by go_simp
  have n0 : w8.cell? ⟨w7.heap.size, 0, none⟩ = some (.slice (some ⟨g7, 0, none⟩) ys.length ys.length) := by go_simp
  have n1 : w8.cell? ⟨w7.heap.size, 1, none⟩ = some (.int .i64 b') := by go_simp
  have n2 : w8.cell? ⟨w7.heap.size, 2, none⟩ = some (.int .i64 d') := by go_simp
  have n3 : w8.cell? ⟨w7.heap.size, 3, none⟩ = some (.int .i64 wd') := by go_simp
  have r6 : RdI w8 (.slice (some ⟨g6, 0, none⟩) xs.length xs.length) xs := (((hr6.below ((Below.refl _ _).al _)).below hb7).below ((Below.refl _ _).al _)).below hb8
  have r7 : RdI w8 (.slice (some ⟨g7, 0, none⟩) ys.length ys.length) ys := (hr7.below ((Below.refl _ _).al _)).below hb8
  have kk0 : w8.cell? ⟨w.heap.size, 0, none⟩ = some (.slice a1 xs.length cap1) := by go_simp
  have kk1 : w8.cell? ⟨w.heap.size, 1, none⟩ = some (.int .i64 b) := by go_simp
  have kk2 : w8.cell? ⟨w.heap.size, 2, none⟩ = some (.int .i64 d) := by go_simp
  have kk3 : w8.cell? ⟨w.heap.size, 3, none⟩ = some (.int .i64 wd) := by go_simp
  have l0 : w8.cell? ⟨w.heap.size + 1, 0, none⟩ = some (.slice a2 ys.length cap2) := by go_simp
  have l1 : w8.cell? ⟨w.heap.size + 1, 1, none⟩ = some (.int .i64 b') := by go_simp
  have l2 : w8.cell? ⟨w.heap.size + 1, 2, none⟩ = some (.int .i64 d') := by go_simp
  have l3 : w8.cell? ⟨w.heap.size + 1, 3, none⟩ = some (.int .i64 wd') := by go_simp
  have B8 : Below w.heap.size w w8 := B2.tr hB8
  clear hcb8 hcb7 hc8 hf8 hc7 hf7 hb8 hb7 hr6 hr7 k0 k1 k2 k3 k4 k5 k6 k7 hB8 hB7 hB6 hb6 hc6 hf6 hB5 hb5 hc5 hf5
  go_region_held3 (fun w' => w'.cell? ⟨w.heap.size, 0, none⟩ = some (.slice a1 xs.length cap1) ∧ w'.cell? ⟨w.heap.size, 1, none⟩ = some (.int .i64 b) ∧ w'.cell? ⟨w.heap.size, 2, none⟩ = some (.int .i64 d) ∧ w'.cell? ⟨w.heap.size, 3, none⟩ = some (.int .i64 wd) ∧
      w'.cell? ⟨w6.heap.size, 0, none⟩ = some (.slice (some ⟨g6, 0, none⟩) xs.length xs.length) ∧ w'.cell? ⟨w6.heap.size, 1, none⟩ = some (.int .i64 b) ∧ w'.cell? ⟨w6.heap.size, 2, none⟩ = some (.int .i64 d) ∧ w'.cell? ⟨w6.heap.size, 3, none⟩ = some (.int .i64 wd))
    (go_keep)
    (first
      | (go_at_call 30; refine (c_laws_toDesk' xs b d wd _ _ (h1.below (by (repeat (first | (with_reducible assumption) | (with_reducible exact Below.refl _ _) | (with_reducible refine Below.setCell ?_ (by first | (simp; done) | (simp; omega)) _) | (with_reducible refine Below.al ?_ _) | (with_reducible refine Below.dr ?_) | (with_reducible refine Below.drN ?_ _) | (with_reducible refine Below.tr ?_ (by with_reducible assumption)))))) hxn w8 (by (repeat (first | (with_reducible assumption) | (with_reducible exact Below.refl _ _) | (with_reducible refine Below.setCell ?_ (by first | (simp; done) | (simp; omega)) _) | (with_reducible refine Below.al ?_ _) | (with_reducible refine Below.dr ?_) | (with_reducible refine Below.drN ?_ _) | (with_reducible refine Below.tr ?_ (by with_reducible assumption)))))).mono ?_; rintro e w9 ⟨g9, rfl, hr9, hB9, hb9⟩; obtain ⟨hc9, hf9⟩ := bcell hB9; have hz9_0 : w.heap.size < w9.heap.size := Nat.lt_of_lt_of_le (by first | omega | (simp; done) | (simp; omega)) hB9.size; have hz9_1 : w.heap.size + 1 < w9.heap.size := Nat.lt_of_lt_of_le (by first | omega | (simp; done) | (simp; omega)) hB9.size)
      | (go_at_call 19; refine (c_laws_eqDesk xs b d wd _ _ _ (r6.below hB9) hr9).mono ?_; rintro e w10 ⟨rfl, hb10⟩; have hB10 : Below w8.heap.size w8 w10 := hB9.tr hb10; obtain ⟨hc10, hf10⟩ := bcell hB10; have hz10_0 : w.heap.size < w10.heap.size := Nat.lt_of_lt_of_le (by first | omega | (simp; done) | (simp; omega)) hB10.size; have hz10_1 : w.heap.size + 1 < w10.heap.size := Nat.lt_of_lt_of_le (by first | omega | (simp; done) | (simp; omega)) hB10.size))
  have hz710 : w7.heap.size < w10.heap.size := Nat.lt_of_lt_of_le hz78 hB10.size
  go_wp2_with fail
  have ll0 : w10.cell? ⟨w.heap.size + 1, 0, none⟩ = some (.slice a2 ys.length cap2) := by go_simp
  have ll1 : w10.cell? ⟨w.heap.size + 1, 1, none⟩ = some (.int .i64 b') := by go_simp
  have ll2 : w10.cell? ⟨w.heap.size + 1, 2, none⟩ = some (.int .i64 d') := by go_simp
  have ll3 : w10.cell? ⟨w.heap.size + 1, 3, none⟩ = some (.int .i64 wd') := by go_simp
  have nn0 : w10.cell? ⟨w7.heap.size, 0, none⟩ = some (.slice (some ⟨g7, 0, none⟩) ys.length ys.length) := by go_simp
  have nn1 : w10.cell? ⟨w7.heap.size, 1, none⟩ = some (.int .i64 b') := by go_simp
  have nn2 : w10.cell? ⟨w7.heap.size, 2, none⟩ = some (.int .i64 d') := by go_simp
  have nn3 : w10.cell? ⟨w7.heap.size, 3, none⟩ = some (.int .i64 wd') := by go_simp
  have r7' : RdI w10 (.slice (some ⟨g7, 0, none⟩) ys.length ys.length) ys := r7.below hB10
  have B10 : Below w.heap.size w w10 := B8.tr hB10
  clear l0 l1 l2 l3 n0 n1 n2 n3 m0 m1 m2 m3 kk0 kk1 kk2 kk3 hc10 hf10 hc9 hf9 hb9 hb10 hB9 hB10
  go_region_held3 (fun w' => w'.cell? ⟨w.heap.size + 1, 0, none⟩ = some (.slice a2 ys.length cap2) ∧ w'.cell? ⟨w.heap.size + 1, 1, none⟩ = some (.int .i64 b') ∧ w'.cell? ⟨w.heap.size + 1, 2, none⟩ = some (.int .i64 d') ∧ w'.cell? ⟨w.heap.size + 1, 3, none⟩ = some (.int .i64 wd') ∧ w'.cell? ⟨w7.heap.size, 0, none⟩ = some (.slice (some ⟨g7, 0, none⟩) ys.length ys.length) ∧ w'.cell? ⟨w7.heap.size, 1, none⟩ = some (.int .i64 b') ∧ w'.cell? ⟨w7.heap.size, 2, none⟩ = some (.int .i64 d') ∧ w'.cell? ⟨w7.heap.size, 3, none⟩ = some (.int .i64 wd'))
    (go_keep)
    (first
      | (go_at_call 30; refine (c_laws_toDesk' ys b' d' wd' _ _ (h2.below (by (repeat (first | (with_reducible assumption) | (with_reducible exact Below.refl _ _) | (with_reducible refine Below.setCell ?_ (by first | (simp; done) | (simp; omega)) _) | (with_reducible refine Below.al ?_ _) | (with_reducible refine Below.dr ?_) | (with_reducible refine Below.drN ?_ _) | (with_reducible refine Below.tr ?_ (by with_reducible assumption)))))) hyn w10 (by (repeat (first | (with_reducible assumption) | (with_reducible exact Below.refl _ _) | (with_reducible refine Below.setCell ?_ (by first | (simp; done) | (simp; omega)) _) | (with_reducible refine Below.al ?_ _) | (with_reducible refine Below.dr ?_) | (with_reducible refine Below.drN ?_ _) | (with_reducible refine Below.tr ?_ (by with_reducible assumption)))))).mono ?_; rintro e w11 ⟨g11, rfl, hr11, hB11, hb11⟩; obtain ⟨hc11, hf11⟩ := bcell hB11; have hz11_0 : w.heap.size < w11.heap.size := Nat.lt_of_lt_of_le (by first | omega | (simp; done) | (simp; omega)) hB11.size; have hz11_1 : w.heap.size + 1 < w11.heap.size := Nat.lt_of_lt_of_le (by first | omega | (simp; done) | (simp; omega)) hB11.size)
      | (go_at_call 19; refine (c_laws_eqDesk ys b' d' wd' _ _ _ (r7'.below hB11) hr11).mono ?_; rintro e w12 ⟨rfl, hb12⟩; have hB12 : Below w10.heap.size w10 w12 := hB11.tr hb12; obtain ⟨hc12, hf12⟩ := bcell hB12; have hz12_0 : w.heap.size < w12.heap.size := Nat.lt_of_lt_of_le (by first | omega | (simp; done) | (simp; omega)) hB12.size; have hz12_1 : w.heap.size + 1 < w12.heap.size := Nat.lt_of_lt_of_le (by first | omega | (simp; done) | (simp; omega)) hB12.size))
  have B12 : Below w.heap.size w w12 := B10.tr hB12
  go_wp2
  go_ret
  exact ⟨rfl, B12⟩
theorem walk_big1 (xs : List Int) (b d wd : Int) (v2 : Value) (ys : List Int) (b' d' wd' : Int) (a1 : Option Addr) (cap1 : Nat) (w : World) (hl1 : (xs.length : Int) ≤ 9223372036854775807)
    (hx : (1048576 : Int) - xs.length < 0) :
    Calls Try.prog 7 #[.agg #[.slice a1 xs.length cap1, .int .i64 b, .int .i64 d, .int .i64 wd], .agg #[v2, .int .i64 b', .int .i64 d', .int .i64 wd']] w fun e w' => e = .returned (.bool true) ∧ Below w.heap.size w w' := by
  have HL := Lib.hid (szLeft_neg hx)
  have t1 : szLeft 1048576 xs.length < 0 := by rw [HL.out]; decide
  go_enter Try.func7, Try.ntmps7
  go_wp2_with fail
  refine (c_laws_szDesk _ _ _ _ _ _ _ _ hl1 (by omega)).mono ?_; rintro e w1 ⟨rfl, hb1⟩
  go_wp2
  go_ret
  exact ⟨rfl, by (repeat (first | (with_reducible assumption) | (with_reducible exact Below.refl _ _) | (with_reducible refine Below.setCell ?_ (by first | (simp; done) | (simp; omega)) _) | (with_reducible refine Below.al ?_ _) | (with_reducible refine Below.dr ?_) | (with_reducible refine Below.drN ?_ _) | (with_reducible refine Below.tr ?_ (by with_reducible assumption))))⟩
theorem walk_big2 (xs ys : List Int) (b d wd b' d' wd' : Int) (a1 a2 : Option Addr) (cap1 cap2 : Nat) (w : World) (hl2 : (ys.length : Int) ≤ 9223372036854775807)
    (hx : (xs.length : Int) ≤ 1048576) (hy : (1048576 : Int) - xs.length - ys.length < 0) :
    Calls Try.prog 7 #[.agg #[.slice a1 xs.length cap1, .int .i64 b, .int .i64 d, .int .i64 wd], .agg #[.slice a2 ys.length cap2, .int .i64 b', .int .i64 d', .int .i64 wd']] w fun e w' => e = .returned (.bool true) ∧ Below w.heap.size w w' := by
  have HL := Lib.hid (szLeft_pos (left := 1048576) (len := xs.length) (by omega))
  have t1 : ¬ szLeft 1048576 xs.length < 0 := by rw [HL.out]; omega
  have HL2 := Lib.hid (szLeft_neg (left := szLeft 1048576 xs.length) (len := ys.length) (by rw [HL.out]; omega))
  have t2 : szLeft (szLeft 1048576 xs.length) ys.length < 0 := by rw [HL2.out]; decide
  have hl1 : (xs.length : Int) ≤ 9223372036854775807 := by omega
  have hb3 : 0 ≤ szLeft 1048576 xs.length ∧ szLeft 1048576 xs.length ≤ 1048576 := by rw [HL.out]; omega
  go_enter Try.func7, Try.ntmps7
  go_wp2_with fail
  refine (c_laws_szDesk _ _ _ _ _ _ _ _ hl1 (by omega)).mono ?_; rintro e w1 ⟨rfl, hb1⟩; obtain ⟨hc1, hf1⟩ := bcell hb1; have hz1_0 : w.heap.size < w1.heap.size := Nat.lt_of_lt_of_le (by first | omega | (simp; done) | (simp; omega)) hb1.size; have hz1_1 : w.heap.size + 1 < w1.heap.size := Nat.lt_of_lt_of_le (by first | omega | (simp; done) | (simp; omega)) hb1.size
  go_wp2_with fail
  refine (c_laws_szDesk _ _ _ _ _ _ _ _ hl2 hb3).mono ?_; rintro e w2 ⟨rfl, hb2⟩
  go_wp2
  go_ret
  exact ⟨rfl, by (repeat (first | (with_reducible assumption) | (with_reducible exact Below.refl _ _) | (with_reducible refine Below.setCell ?_ (by first | (simp; done) | (simp; omega)) _) | (with_reducible refine Below.al ?_ _) | (with_reducible refine Below.dr ?_) | (with_reducible refine Below.drN ?_ _) | (with_reducible refine Below.tr ?_ (by with_reducible assumption))))⟩
theorem walk (v0 v1 : Value) (w : World) (p0 : Arg_Desk w v0) (p1 : Arg_Desk w v1) : Calls Try.prog 7 #[v0, v1] w fun e w' => e = .returned (.bool true) ∧ Below w.heap.size w w' := by
  obtain ⟨u1, xs, b, d, wd, rfl, h1⟩ := p0
  obtain ⟨u2, ys, b', d', wd', rfl, h2⟩ := p1
  have h1' := h1
  have h2' := h2
  obtain ⟨a1, cap1, rfl, hl1, _⟩ := h1'
  obtain ⟨a2, cap2, rfl, hl2, _⟩ := h2'
  by_cases hx : (1048576 : Int) - xs.length < 0
  · exact walk_big1 xs b d wd _ ys b' d' wd' a1 cap1 w (by omega) hx
  · by_cases hy : (1048576 : Int) - xs.length - ys.length < 0
    · exact walk_big2 xs ys b d wd b' d' wd' a1 a2 cap1 cap2 w (by omega) (by omega) hy
    · exact walk_small xs ys b d wd b' d' wd' a1 a2 cap1 cap2 w h1 h2 (by omega) (by omega)
theorem own : ownKnob Try.prog.godebug = none := by kernel_rfl
theorem laidOut : laidOutB Try.prog = true := by kernel_rfl
set_option maxRecDepth 100000 in
theorem lifted (os : Os) (started : os.Started) (H : Type) (enc : TypeId × Value → H) :
    ReturnsInHanded {} Try.checked os 7 .any (Rows.fnExactSameDeskSpec.pre6 enc Try.prog Try.f7 Rows.fnExactSameDeskRow.domain false) (Rows.fnExactSameDeskSpec.post enc Try.prog Try.f7 false true false false) := by
  refine returnsInHanded_of_change (C := Try.checked) own started (by kernel_rfl) Try.func7
    (ChangeSpec.witness6 (enc := enc) (C := Try.checked) false ⟨#[], #[.agg #[.slice none 0 0, .int .i64 0, .int .i64 0, .int .i64 0], .agg #[.slice none 0 0, .int .i64 0, .int .i64 0, .int .i64 0]], []⟩ 8 (by kernel_rfl) (by kernel_rfl) (by kernel_rfl) (by kernel_rfl)) ?_
  intro W base args ds gs before hval0 hW hcnd _
  have hval : ∀ (j : Nat) t v, Try.f7.params[j]? = some t → args[j]? = some v → Value.okWide Try.prog W .any base t v := hval0
  have hW' := hW
  obtain ⟨p, q, hA0, hV, rfl, hfz, hnd⟩ := hW
  have hA : DataW.TrodAll enc Try.prog W 0 (fun _ => true) true Try.f7.params.toList args.toList ds p := hA0
  rw [Try.params7] at hA hval
  obtain ⟨v0, vs0, d0, ds0, p0, q0, hargs, rfl, rfl, h0, r0⟩ := trodAll_cons hA
  obtain ⟨v1, vs1, d1, ds1, p1, q1, rfl, rfl, rfl, h1, r1⟩ := trodAll_cons r0
  obtain ⟨rfl, rfl, rfl⟩ := trodAll_nil r1
  obtain rfl : args = #[v0, v1] := by cases args; simp_all
  obtain ⟨rfl, rfl⟩ := trodVars_none hV
  have k0 := h0
  have lt0 : ∀ x ∈ p0, x.block < W.heap.size := by obtain ⟨m, hm⟩ := k0; exact DataW.trod_lt m _ _ _ hm
  have a0 := open_Desk (hval 0 48 v0 rfl rfl) h0
  have k1 := h1
  have lt1 : ∀ x ∈ p1, x.block < W.heap.size := by obtain ⟨m, hm⟩ := k1; exact DataW.trod_lt m _ _ _ hm
  have a1 := open_Desk (hval 1 48 v1 rfl rfl) h1
  clear hA0 hval0
  refine (walk v0 v1 W a0 a1).mono fun e W' ⟨he, bel⟩ => ?_
  subst he
  exact ⟨_, rfl, _, _, _, [], _, [], hW', trodAll_mk1 (shut_bool Try.underlying4 _), (trodAll_cons_mk (Below.trod laidOut (by kernel_rfl) (of_decide_eq_true (by kernel_rfl)) k0 bel lt0) (trodAll_cons_mk (Below.trod laidOut (by kernel_rfl) (of_decide_eq_true (by kernel_rfl)) k1 bel lt1) trodAll_mk0)), rfl, bel.frame _, fun h => by cases h⟩
theorem over : Rows.fnExactSameDeskRow.holds Try.pinned (OpenSpec.ofChange Rows.fnExactSameDeskSpec) :=
  OpenClaim.holds_of_wide 7 Try.f7 rfl rfl rfl rfl rfl rfl rfl ⟨rfl, rfl, rfl, rfl, rfl⟩ rfl rfl rfl rfl rfl (by kernel_rfl) Try.func7 (by kernel_rfl)
    (of_decide_eq_true (by kernel_rfl)) (by unfold Func.isWrapper; first | (rw [if_pos (by decide +kernel)]; kernel_rfl) | (rw [if_neg (by decide +kernel)]; exact ⟨rfl, rfl⟩))
    (fun os started H enc _ => lifted os started H enc)
theorem proved : Rows.FnExactSameDeskSaid := over
end Go.Proofs.Ytcohceopahhacaa.fnExactSameDesk
