/- The law FnExactValidDesk returns true for all desks. No condition. -/
import Derived.Test.YtcohceopahhacaaDesk
import Derived.Test.YtcohceopahhacaaPat
import Derived.Deep.RegionHeld3
namespace Go.Proofs.Ytcohceopahhacaa
open Go.ChangeShapes Go.WideShapes Go.ChangeAt Go.RowKit
set_option linter.unusedVariables false
theorem c_impl_ValidTiming (b d : Int) (w : World) :
    Calls Try.prog 60 #[.agg #[.int .i64 b, .int .i64 d]] w fun e w' => e = .returned (.bool (validT b d)) ∧ Below w.heap.size w w' := by
  cases h1 : inB b 2 30
  · go_enter Try.func60, Try.ntmps60
    go_wp2_with (go_at_call 40; refine (c_impl_between _ _ _ _).mono ?_; rintro e w1 ⟨rfl, rfl⟩)
    go_ret
    exact ⟨by simp [validT, h1], by (repeat (first | (with_reducible assumption) | (with_reducible exact Below.refl _ _) | (with_reducible refine Below.setCell ?_ (by first | (simp; done) | (simp; omega)) _) | (with_reducible refine Below.al ?_ _) | (with_reducible refine Below.dr ?_) | (with_reducible refine Below.drN ?_ _) | (with_reducible refine Below.tr ?_ (by with_reducible assumption))))⟩
  · have hb := inB_iff.1 h1
    go_enter Try.func60, Try.ntmps60
    go_wp2_with (go_at_call 40; refine (c_impl_between _ _ _ _).mono ?_; rintro e w1 ⟨rfl, rfl⟩)
    go_ret
    exact ⟨by simp [validT, h1], by (repeat (first | (with_reducible assumption) | (with_reducible exact Below.refl _ _) | (with_reducible refine Below.setCell ?_ (by first | (simp; done) | (simp; omega)) _) | (with_reducible refine Below.al ?_ _) | (with_reducible refine Below.dr ?_) | (with_reducible refine Below.drN ?_ _) | (with_reducible refine Below.tr ?_ (by with_reducible assumption))))⟩
theorem c_spec_l15Ok (b d : Int) (w : World) :
    Calls Try.prog 69 #[.agg #[.int .i64 b, .int .i64 d]] w fun e w' => e = .returned (.bool (validT b d)) ∧ Below w.heap.size w w' := by
  cases h1 : inB b 2 30
  · go_enter Try.func69, Try.ntmps69
    go_wp2_with (go_at_call 39; refine (c_spec_l00In _ _ _ _).mono ?_; rintro e w1 ⟨rfl, rfl⟩)
    go_ret
    exact ⟨by simp [validT, h1], by (repeat (first | (with_reducible assumption) | (with_reducible exact Below.refl _ _) | (with_reducible refine Below.setCell ?_ (by first | (simp; done) | (simp; omega)) _) | (with_reducible refine Below.al ?_ _) | (with_reducible refine Below.dr ?_) | (with_reducible refine Below.drN ?_ _) | (with_reducible refine Below.tr ?_ (by with_reducible assumption))))⟩
  · have hb := inB_iff.1 h1
    go_enter Try.func69, Try.ntmps69
    go_wp2_with (go_at_call 39; refine (c_spec_l00In _ _ _ _).mono ?_; rintro e w1 ⟨rfl, rfl⟩)
    go_ret
    exact ⟨by simp [validT, h1], by (repeat (first | (with_reducible assumption) | (with_reducible exact Below.refl _ _) | (with_reducible refine Below.setCell ?_ (by first | (simp; done) | (simp; omega)) _) | (with_reducible refine Below.al ?_ _) | (with_reducible refine Below.dr ?_) | (with_reducible refine Below.drN ?_ _) | (with_reducible refine Below.tr ?_ (by with_reducible assumption))))⟩
theorem c_impl_isWidth (n : Int) (w : World) :
    Calls Try.prog 61 #[.int .i64 n] w fun e w' => e = .returned (.bool (inB n 0 16)) ∧ w = w' := by
  go_enter Try.func61, Try.ntmps61
  go_wp2_with (go_at_call 40; refine (c_impl_between _ _ _ _).mono ?_; rintro e w1 ⟨rfl, rfl⟩)
  go_ret
  exact ⟨rfl, rfl⟩
theorem c_spec_l28Width (n : Int) (w : World) :
    Calls Try.prog 70 #[.int .i64 n] w fun e w' => e = .returned (.bool (inB n 0 16)) ∧ w = w' := by
  go_enter Try.func70, Try.ntmps70
  go_wp2_with (go_at_call 39; refine (c_spec_l00In _ _ _ _).mono ?_; rintro e w1 ⟨rfl, rfl⟩)
  go_ret
  exact ⟨rfl, rfl⟩
def validD (xs : List Int) (b d wd : Int) : Bool := validP xs && validT b d && inB wd 0 16
theorem c_impl_ValidDesk (xs : List Int) (b d wd : Int) (v : Value) (w : World) (h : RdI w v xs) :
    Calls Try.prog 38 #[.agg #[v, .int .i64 b, .int .i64 d, .int .i64 wd]] w fun e w' => e = .returned (.bool (validD xs b d wd)) ∧ Below w.heap.size w w' := by
  have h' := h
  obtain ⟨a1, cap1, rfl, _, _⟩ := h'
  cases h1 : validP xs
  · go_enter Try.func38, Try.ntmps38
    go_wp2_with fail
    refine (c_impl_ValidPattern xs _ _ (h.below ((Below.refl _ _).al _))).mono ?_; rintro e w1 ⟨rfl, hb1⟩; obtain ⟨hc1, hf1⟩ := bcell hb1; have hz1_0 : w.heap.size < w1.heap.size := Nat.lt_of_lt_of_le (by first | omega | (simp; done) | (simp; omega)) hb1.size
    go_wp2
    go_ret
    exact ⟨by simp [validD, h1], by (repeat (first | (with_reducible assumption) | (with_reducible exact Below.refl _ _) | (with_reducible refine Below.setCell ?_ (by first | (simp; done) | (simp; omega)) _) | (with_reducible refine Below.al ?_ _) | (with_reducible refine Below.dr ?_) | (with_reducible refine Below.drN ?_ _) | (with_reducible refine Below.tr ?_ (by with_reducible assumption))))⟩
  · cases h2 : validT b d
    all_goals
      go_enter Try.func38, Try.ntmps38
      go_wp2_with fail
      refine (c_impl_ValidPattern xs _ _ (h.below ((Below.refl _ _).al _))).mono ?_; rintro e w1 ⟨rfl, hb1⟩; obtain ⟨hc1, hf1⟩ := bcell hb1; have hz1_0 : w.heap.size < w1.heap.size := Nat.lt_of_lt_of_le (by first | omega | (simp; done) | (simp; omega)) hb1.size
      go_wp2_with fail
      refine (c_impl_ValidTiming b d _).mono ?_; rintro e w2 ⟨rfl, hb2⟩; obtain ⟨hc2, hf2⟩ := bcell hb2; have hz2_0 : w.heap.size < w2.heap.size := Nat.lt_of_lt_of_le (by first | omega | (simp; done) | (simp; omega)) hb2.size
      go_wp2_with (go_at_call 61; refine (c_impl_isWidth _ _).mono ?_; rintro e w1 ⟨rfl, rfl⟩)
      go_ret
      exact ⟨by simp [validD, h1, h2], by (repeat (first | (with_reducible assumption) | (with_reducible exact Below.refl _ _) | (with_reducible refine Below.setCell ?_ (by first | (simp; done) | (simp; omega)) _) | (with_reducible refine Below.al ?_ _) | (with_reducible refine Below.dr ?_) | (with_reducible refine Below.drN ?_ _) | (with_reducible refine Below.tr ?_ (by with_reducible assumption))))⟩
theorem c_spec_l28Ok (xs : List Int) (b d wd : Int) (v : Value) (g : Nat) (w : World) (h : RdI w v xs)
    (k0 : w.cell? ⟨g, 0, none⟩ = some v) (k1 : w.cell? ⟨g, 1, none⟩ = some (.int .i64 b)) (k2 : w.cell? ⟨g, 2, none⟩ = some (.int .i64 d)) (k3 : w.cell? ⟨g, 3, none⟩ = some (.int .i64 wd)) :
    Calls Try.prog 58 #[.pointer (some ⟨g, 0, none⟩)] w fun e w' => e = .returned (.bool (validD xs b d wd)) ∧ Below w.heap.size w w' := by
  have h' := h
  obtain ⟨a1, cap1, rfl, _, _⟩ := h'
  have hg := World.block_lt_of_cell? w _ k0
  simp only at hg
  cases h1 : validP xs
  · go_enter Try.func58, Try.ntmps58
    go_wp2_with fail
    refine (c_spec_l02Ok xs _ _ h).mono ?_; rintro e w1 ⟨rfl, hb1⟩; obtain ⟨hc1, hf1⟩ := bcell hb1
    go_wp2
    go_ret
    exact ⟨by simp [validD, h1], by (repeat (first | (with_reducible assumption) | (with_reducible exact Below.refl _ _) | (with_reducible refine Below.setCell ?_ (by first | (simp; done) | (simp; omega)) _) | (with_reducible refine Below.al ?_ _) | (with_reducible refine Below.dr ?_) | (with_reducible refine Below.drN ?_ _) | (with_reducible refine Below.tr ?_ (by with_reducible assumption))))⟩
  · cases h2 : validT b d
    all_goals
      go_enter Try.func58, Try.ntmps58
      go_wp2_with fail
      refine (c_spec_l02Ok xs _ _ h).mono ?_; rintro e w1 ⟨rfl, hb1⟩; obtain ⟨hc1, hf1⟩ := bcell hb1
      have hg1 : g < w1.heap.size := by have := hb1.size; omega
      go_wp2_with fail
      refine (c_spec_l15Ok b d _).mono ?_; rintro e w2 ⟨rfl, hb2⟩; obtain ⟨hc2, hf2⟩ := bcell hb2
      go_wp2_with (go_at_call 70; refine (c_spec_l28Width _ _).mono ?_; rintro e w1 ⟨rfl, rfl⟩)
      go_ret
      exact ⟨by simp [validD, h1, h2], by (repeat (first | (with_reducible assumption) | (with_reducible exact Below.refl _ _) | (with_reducible refine Below.setCell ?_ (by first | (simp; done) | (simp; omega)) _) | (with_reducible refine Below.al ?_ _) | (with_reducible refine Below.dr ?_) | (with_reducible refine Below.drN ?_ _) | (with_reducible refine Below.tr ?_ (by with_reducible assumption))))⟩
theorem c_spec_ValidDesk (xs : List Int) (b d wd : Int) (v : Value) (w : World) (h : RdI w v xs) :
    Calls Try.prog 37 #[.agg #[v, .int .i64 b, .int .i64 d, .int .i64 wd]] w fun e w' => e = .returned (.bool (validD xs b d wd)) ∧ Below w.heap.size w w' := by
  have h' := h
  obtain ⟨a1, cap1, rfl, _, _⟩ := h'
  go_enter Try.func37, Try.ntmps37
  go_wp2_with fail
  refine (c_spec_l28Ok xs b d wd _ _ _ (h.below ((Below.refl _ _).al _)) (by go_simp) (by go_simp) (by go_simp) (by go_simp)).mono ?_; rintro e w1 ⟨rfl, hb1⟩
  go_wp2
  go_ret
  exact ⟨rfl, by (repeat (first | (with_reducible assumption) | (with_reducible exact Below.refl _ _) | (with_reducible refine Below.setCell ?_ (by first | (simp; done) | (simp; omega)) _) | (with_reducible refine Below.al ?_ _) | (with_reducible refine Below.dr ?_) | (with_reducible refine Below.drN ?_ _) | (with_reducible refine Below.tr ?_ (by with_reducible assumption))))⟩
namespace fnExactValidDesk
theorem c_laws_toDesk' (xs : List Int) (b d wd : Int) (v : Value) (w : World) (h : RdI w v xs) (hn : xs.length ≤ 1048576) (w0 : World) (hw : Below w0.heap.size w0 w) :
    Calls Try.prog 30 #[.agg #[v, .int .i64 b, .int .i64 d, .int .i64 wd]] w fun e w' => ∃ g, e = .returned (.agg #[.slice (some ⟨g, 0, none⟩) xs.length xs.length, .int .i64 b, .int .i64 d, .int .i64 wd]) ∧ RdI w' (.slice (some ⟨g, 0, none⟩) xs.length xs.length) xs ∧ Below w0.heap.size w0 w' ∧ Below w.heap.size w w' :=
  (c_laws_toDesk xs b d wd v w h hn).mono fun _ _ ⟨g, he, ho, hb⟩ => ⟨g, he, ho.rd, hw.tr hb, hb⟩
set_option maxHeartbeats 4000000 in
theorem walk_small (xs : List Int) (b d wd : Int) (a1 : Option Addr) (cap1 : Nat) (w : World) (h1 : RdI w (.slice a1 xs.length cap1) xs) (hx : (xs.length : Int) ≤ 1048576) :
    Calls Try.prog 9 #[.agg #[.slice a1 xs.length cap1, .int .i64 b, .int .i64 d, .int .i64 wd]] w fun e w' => e = .returned (.bool true) ∧ Below w.heap.size w w' := by
  have HL := Lib.hid (szLeft_pos (left := 1048576) (len := xs.length) (by omega))
  have t1 : ¬ szLeft 1048576 xs.length < 0 := by rw [HL.out]; omega
  have hl1 : (xs.length : Int) ≤ 9223372036854775807 := by omega
  have hxn : xs.length ≤ 1048576 := by omega
  go_enter Try.func9, Try.ntmps9
  go_wp2_with fail
  refine (c_laws_szDesk _ _ _ _ _ _ _ _ hl1 (by omega)).mono ?_; rintro e w2 ⟨rfl, hb2⟩; obtain ⟨hc2, hf2⟩ := bcell hb2; have hz2_0 : w.heap.size < w2.heap.size := Nat.lt_of_lt_of_le (by first | omega | (simp; done) | (simp; omega)) hb2.size
  have B2 : Below w.heap.size w w2 := by (repeat (first | (with_reducible assumption) | (with_reducible exact Below.refl _ _) | (with_reducible refine Below.setCell ?_ (by first | (simp; done) | (simp; omega)) _) | (with_reducible refine Below.al ?_ _) | (with_reducible refine Below.dr ?_) | (with_reducible refine Below.drN ?_ _) | (with_reducible refine Below.tr ?_ (by with_reducible assumption))))
  clear hl1 hb2
  have k0 : w2.cell? ⟨w.heap.size, 0, none⟩ = some (.slice a1 xs.length cap1) := by go_simp
  have k1 : w2.cell? ⟨w.heap.size, 1, none⟩ = some (.int .i64 b) := by go_simp
  have k2 : w2.cell? ⟨w.heap.size, 2, none⟩ = some (.int .i64 d) := by go_simp
  have k3 : w2.cell? ⟨w.heap.size, 3, none⟩ = some (.int .i64 wd) := by go_simp
  clear hc2 hf2
  go_wp2_with fail
  refine (c_laws_toDesk' xs b d wd _ _ (h1.below (by (repeat (first | (with_reducible assumption) | (with_reducible exact Below.refl _ _) | (with_reducible refine Below.setCell ?_ (by first | (simp; done) | (simp; omega)) _) | (with_reducible refine Below.al ?_ _) | (with_reducible refine Below.dr ?_) | (with_reducible refine Below.drN ?_ _) | (with_reducible refine Below.tr ?_ (by with_reducible assumption)))))) hxn w2 (by (repeat (first | (with_reducible assumption) | (with_reducible exact Below.refl _ _) | (with_reducible refine Below.setCell ?_ (by first | (simp; done) | (simp; omega)) _) | (with_reducible refine Below.al ?_ _) | (with_reducible refine Below.dr ?_) | (with_reducible refine Below.drN ?_ _) | (with_reducible refine Below.tr ?_ (by with_reducible assumption)))))).mono ?_; rintro e w3 ⟨g3, rfl, hr3, hB3, hb3⟩; obtain ⟨hc3, hf3⟩ := bcell hB3; have hz3_0 : w.heap.size < w3.heap.size := Nat.lt_of_lt_of_le (by first | omega | (simp; done) | (simp; omega)) hB3.size
  go_wp2_with fail
  refine (c_spec_ValidDesk xs b d wd _ _ hr3).mono ?_; rintro e w4 ⟨rfl, hb4⟩; have hB4 : Below w2.heap.size w2 w4 := hB3.tr hb4; obtain ⟨hc4, hf4⟩ := bcell hB4; have hz4_0 : w.heap.size < w4.heap.size := Nat.lt_of_lt_of_le (by first | omega | (simp; done) | (simp; omega)) hB4.size
  go_wp2_with fail
  refine (c_laws_toDesk' xs b d wd _ _ (h1.below (by (repeat (first | (with_reducible assumption) | (with_reducible exact Below.refl _ _) | (with_reducible refine Below.setCell ?_ (by first | (simp; done) | (simp; omega)) _) | (with_reducible refine Below.al ?_ _) | (with_reducible refine Below.dr ?_) | (with_reducible refine Below.drN ?_ _) | (with_reducible refine Below.tr ?_ (by with_reducible assumption)))))) hxn w2 (by (repeat (first | (with_reducible assumption) | (with_reducible exact Below.refl _ _) | (with_reducible refine Below.setCell ?_ (by first | (simp; done) | (simp; omega)) _) | (with_reducible refine Below.al ?_ _) | (with_reducible refine Below.dr ?_) | (with_reducible refine Below.drN ?_ _) | (with_reducible refine Below.tr ?_ (by with_reducible assumption)))))).mono ?_; rintro e w6 ⟨g6, rfl, hr6, hB6, hb6⟩; obtain ⟨hc6, hf6⟩ := bcell hB6; have hz6_0 : w.heap.size < w6.heap.size := Nat.lt_of_lt_of_le (by first | omega | (simp; done) | (simp; omega)) hB6.size
  go_wp2_with fail
  refine (c_impl_ValidDesk xs b d wd _ _ (hr6.below ((Below.refl _ _).al _))).mono ?_; rintro e w8 ⟨rfl, hb8⟩
  have hB8 : Below w2.heap.size w2 w8 := (hB6.al _).tr hb8
  obtain ⟨hc8, hf8⟩ := bcell hB8; have hz8_0 : w.heap.size < w8.heap.size := Nat.lt_of_lt_of_le (by first | omega | (simp; done) | (simp; omega)) hB8.size
  obtain ⟨hcb8, _⟩ := bcell hb8
  have hz68 : w6.heap.size < w8.heap.size := Nat.lt_of_lt_of_le (by simp) hb8.size
  have tt : (validD xs b d wd != validD xs b d wd) = false := by simp
  go_wp2_with fail
  have m0 : w8.cell? ⟨w6.heap.size, 0, none⟩ = some (.slice (some ⟨g6, 0, none⟩) xs.length xs.length) := by go_simp
  have m1 : w8.cell? ⟨w6.heap.size, 1, none⟩ = some (.int .i64 b) := by go_simp
  have m2 : w8.cell? ⟨w6.heap.size, 2, none⟩ = some (.int .i64 d) := by go_simp
  have m3 : w8.cell? ⟨w6.heap.size, 3, none⟩ = some (.int .i64 wd) := by go_simp
  have r6 : RdI w8 (.slice (some ⟨g6, 0, none⟩) xs.length xs.length) xs := (hr6.below ((Below.refl _ _).al _)).below hb8
  have kk0 : w8.cell? ⟨w.heap.size, 0, none⟩ = some (.slice a1 xs.length cap1) := by go_simp
  have kk1 : w8.cell? ⟨w.heap.size, 1, none⟩ = some (.int .i64 b) := by go_simp
  have kk2 : w8.cell? ⟨w.heap.size, 2, none⟩ = some (.int .i64 d) := by go_simp
  have kk3 : w8.cell? ⟨w.heap.size, 3, none⟩ = some (.int .i64 wd) := by go_simp
  have B8 : Below w.heap.size w w8 := B2.tr hB8
  clear hcb8 hc8 hf8 hb8 hr6 k0 k1 k2 k3 hB8 hB6 hb6 hc6 hf6 hc4 hf4 hB4 hb4 hc3 hf3 hB3 hb3
  go_region_held3 (fun w' => w'.cell? ⟨w.heap.size, 0, none⟩ = some (.slice a1 xs.length cap1) ∧ w'.cell? ⟨w.heap.size, 1, none⟩ = some (.int .i64 b) ∧ w'.cell? ⟨w.heap.size, 2, none⟩ = some (.int .i64 d) ∧ w'.cell? ⟨w.heap.size, 3, none⟩ = some (.int .i64 wd) ∧
      w'.cell? ⟨w6.heap.size, 0, none⟩ = some (.slice (some ⟨g6, 0, none⟩) xs.length xs.length) ∧ w'.cell? ⟨w6.heap.size, 1, none⟩ = some (.int .i64 b) ∧ w'.cell? ⟨w6.heap.size, 2, none⟩ = some (.int .i64 d) ∧ w'.cell? ⟨w6.heap.size, 3, none⟩ = some (.int .i64 wd))
    (go_keep)
    (first
      | (go_at_call 30; refine (c_laws_toDesk' xs b d wd _ _ (h1.below (by (repeat (first | (with_reducible assumption) | (with_reducible exact Below.refl _ _) | (with_reducible refine Below.setCell ?_ (by first | (simp; done) | (simp; omega)) _) | (with_reducible refine Below.al ?_ _) | (with_reducible refine Below.dr ?_) | (with_reducible refine Below.drN ?_ _) | (with_reducible refine Below.tr ?_ (by with_reducible assumption)))))) hxn w8 (by (repeat (first | (with_reducible assumption) | (with_reducible exact Below.refl _ _) | (with_reducible refine Below.setCell ?_ (by first | (simp; done) | (simp; omega)) _) | (with_reducible refine Below.al ?_ _) | (with_reducible refine Below.dr ?_) | (with_reducible refine Below.drN ?_ _) | (with_reducible refine Below.tr ?_ (by with_reducible assumption)))))).mono ?_; rintro e w9 ⟨g9, rfl, hr9, hB9, hb9⟩; obtain ⟨hc9, hf9⟩ := bcell hB9; have hz9_0 : w.heap.size < w9.heap.size := Nat.lt_of_lt_of_le (by first | omega | (simp; done) | (simp; omega)) hB9.size)
      | (go_at_call 19; refine (c_laws_eqDesk xs b d wd _ _ _ (r6.below hB9) hr9).mono ?_; rintro e w10 ⟨rfl, hb10⟩; have hB10 : Below w8.heap.size w8 w10 := hB9.tr hb10; obtain ⟨hc10, hf10⟩ := bcell hB10; have hz10_0 : w.heap.size < w10.heap.size := Nat.lt_of_lt_of_le (by first | omega | (simp; done) | (simp; omega)) hB10.size))
  have B10 : Below w.heap.size w w10 := B8.tr hB10
  go_wp2
  go_ret
  exact ⟨rfl, B10⟩
theorem walk_big (xs : List Int) (b d wd : Int) (a1 : Option Addr) (cap1 : Nat) (w : World) (hl1 : (xs.length : Int) ≤ 9223372036854775807) (hx : (1048576 : Int) - xs.length < 0) :
    Calls Try.prog 9 #[.agg #[.slice a1 xs.length cap1, .int .i64 b, .int .i64 d, .int .i64 wd]] w fun e w' => e = .returned (.bool true) ∧ Below w.heap.size w w' := by
  have HL := Lib.hid (szLeft_neg hx)
  have t1 : szLeft 1048576 xs.length < 0 := by rw [HL.out]; decide
  go_enter Try.func9, Try.ntmps9
  go_wp2_with fail
  refine (c_laws_szDesk _ _ _ _ _ _ _ _ hl1 (by omega)).mono ?_; rintro e w1 ⟨rfl, hb1⟩
  go_wp2
  go_ret
  exact ⟨rfl, by (repeat (first | (with_reducible assumption) | (with_reducible exact Below.refl _ _) | (with_reducible refine Below.setCell ?_ (by first | (simp; done) | (simp; omega)) _) | (with_reducible refine Below.al ?_ _) | (with_reducible refine Below.dr ?_) | (with_reducible refine Below.drN ?_ _) | (with_reducible refine Below.tr ?_ (by with_reducible assumption))))⟩
theorem walk (v0 : Value) (w : World) (p0 : Arg_Desk w v0) : Calls Try.prog 9 #[v0] w fun e w' => e = .returned (.bool true) ∧ Below w.heap.size w w' := by
  obtain ⟨u1, xs, b, d, wd, rfl, h1⟩ := p0
  have h1' := h1
  obtain ⟨a1, cap1, rfl, hl1, _⟩ := h1'
  by_cases hx : (1048576 : Int) - xs.length < 0
  · exact walk_big xs b d wd a1 cap1 w (by omega) hx
  · exact walk_small xs b d wd a1 cap1 w h1 (by omega)
theorem own : ownKnob Try.prog.godebug = none := by kernel_rfl
theorem laidOut : laidOutB Try.prog = true := by kernel_rfl
set_option maxRecDepth 100000 in
theorem lifted (os : Os) (started : os.Started) (H : Type) (enc : TypeId × Value → H) :
    ReturnsInHanded {} Try.checked os 9 .any (Rows.fnExactValidDeskSpec.pre6 enc Try.prog Try.f9 Rows.fnExactValidDeskRow.domain false) (Rows.fnExactValidDeskSpec.post enc Try.prog Try.f9 false true false false) := by
  refine returnsInHanded_of_change (C := Try.checked) own started (by kernel_rfl) Try.func9
    (ChangeSpec.witness6 (enc := enc) (C := Try.checked) false ⟨#[], #[.agg #[.slice none 0 0, .int .i64 0, .int .i64 0, .int .i64 0]], []⟩ 8 (by kernel_rfl) (by kernel_rfl) (by kernel_rfl) (by kernel_rfl)) ?_
  intro W base args ds gs before hval0 hW hcnd _
  have hval : ∀ (j : Nat) t v, Try.f9.params[j]? = some t → args[j]? = some v → Value.okWide Try.prog W .any base t v := hval0
  have hW' := hW
  obtain ⟨p, q, hA0, hV, rfl, hfz, hnd⟩ := hW
  have hA : DataW.TrodAll enc Try.prog W 0 (fun _ => true) true Try.f9.params.toList args.toList ds p := hA0
  rw [Try.params9] at hA hval
  obtain ⟨v0, vs0, d0, ds0, p0, q0, hargs, rfl, rfl, h0, r0⟩ := trodAll_cons hA
  obtain ⟨rfl, rfl, rfl⟩ := trodAll_nil r0
  obtain rfl : args = #[v0] := by cases args; simp_all
  obtain ⟨rfl, rfl⟩ := trodVars_none hV
  have k0 := h0
  have lt0 : ∀ x ∈ p0, x.block < W.heap.size := by obtain ⟨m, hm⟩ := k0; exact DataW.trod_lt m _ _ _ hm
  have a0 := open_Desk (hval 0 48 v0 rfl rfl) h0
  clear hA0 hval0
  refine (walk v0 W a0).mono fun e W' ⟨he, bel⟩ => ?_
  subst he
  exact ⟨_, rfl, _, _, _, [], _, [], hW', trodAll_mk1 (shut_bool Try.underlying4 _), (trodAll_cons_mk (Below.trod laidOut (by kernel_rfl) (of_decide_eq_true (by kernel_rfl)) k0 bel lt0) trodAll_mk0), rfl, bel.frame _, fun h => by cases h⟩
theorem over : Rows.fnExactValidDeskRow.holds Try.pinned (OpenSpec.ofChange Rows.fnExactValidDeskSpec) :=
  OpenClaim.holds_of_wide 9 Try.f9 rfl rfl rfl rfl rfl rfl rfl ⟨rfl, rfl, rfl, rfl, rfl⟩ rfl rfl rfl rfl rfl (by kernel_rfl) Try.func9 (by kernel_rfl)
    (of_decide_eq_true (by kernel_rfl)) (by unfold Func.isWrapper; first | (rw [if_pos (by decide +kernel)]; kernel_rfl) | (rw [if_neg (by decide +kernel)]; exact ⟨rfl, rfl⟩))
    (fun os started H enc _ => lifted os started H enc)
theorem proved : Rows.FnExactValidDeskSaid := over
end fnExactValidDesk
end Go.Proofs.Ytcohceopahhacaa
