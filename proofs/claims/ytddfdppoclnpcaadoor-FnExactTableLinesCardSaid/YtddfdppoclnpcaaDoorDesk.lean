/- Contracts on desks: copies, comparisons. -/
import Derived.Test.YtddfdppoclnpcaaDoorLawI
import Derived.Test.YtddfdppoclnpcaaDoorArgs
import Derived.Test.YtddfdppoclnpcaaDoorLawC
namespace Go.Proofs.YtddfdppoclnpcaaDoor
open Go.ChangeShapes Go.WideShapes Go.ChangeAt Go.RowKit
set_option linter.unusedVariables false
set_option maxHeartbeats 1000000 in
theorem c_laws_toTiming (b d : Int) (w : World) :
    Calls Tryd.prog 48 #[.agg #[.int .i64 b, .int .i64 d]] w fun e w' => e = .returned (.agg #[.int .i64 b, .int .i64 d]) ∧ Below w.heap.size w w' := by
  go_enter Tryd.func48, Tryd.ntmps48
  go_wp2
  exact bodyPost_ret (v := .agg #[.int .i64 b, .int .i64 d]) (by simp [results, Tryd.results48, go_sem]) rfl ⟨rfl, by (repeat (first | (with_reducible assumption) | (with_reducible exact Below.refl _ _) | (with_reducible refine Below.setCell ?_ (by first | (simp; done) | (simp; omega)) _) | (with_reducible refine Below.al ?_ _) | (with_reducible refine Below.dr ?_) | (with_reducible refine Below.drN ?_ _) | (with_reducible refine Below.tr ?_ (by with_reducible assumption))))⟩
theorem c_laws_eqTiming (b d b' d' : Int) (w : World) :
    Calls Tryd.prog 53 #[.agg #[.int .i64 b, .int .i64 d], .agg #[.int .i64 b', .int .i64 d']] w fun e w' => e = .returned (.bool (decide (b = b' ∧ d = d'))) ∧ Below w.heap.size w w' := by
  by_cases h1 : b = b'
  · have t1 : (b != b') = false := by simp [h1]
    have H1 := Lib.hid h1
    clear h1
    by_cases h2 : d = d'
    · have t2 : (d != d') = false := by simp [h2]
      have H2 := Lib.hid h2
      clear h2
      go_enter Tryd.func53, Tryd.ntmps53
      go_wp2
      go_ret
      exact ⟨by simp [H1.out, H2.out], by (repeat (first | (with_reducible assumption) | (with_reducible exact Below.refl _ _) | (with_reducible refine Below.setCell ?_ (by first | (simp; done) | (simp; omega)) _) | (with_reducible refine Below.al ?_ _) | (with_reducible refine Below.dr ?_) | (with_reducible refine Below.drN ?_ _) | (with_reducible refine Below.tr ?_ (by with_reducible assumption))))⟩
    · have t2 : (d != d') = true := by simp [h2]
      have H2 := Lib.hid h2
      clear h2
      go_enter Tryd.func53, Tryd.ntmps53
      go_wp2
      go_ret
      exact ⟨by simp [H2.out], by (repeat (first | (with_reducible assumption) | (with_reducible exact Below.refl _ _) | (with_reducible refine Below.setCell ?_ (by first | (simp; done) | (simp; omega)) _) | (with_reducible refine Below.al ?_ _) | (with_reducible refine Below.dr ?_) | (with_reducible refine Below.drN ?_ _) | (with_reducible refine Below.tr ?_ (by with_reducible assumption))))⟩
  · have t1 : (b != b') = true := by simp [h1]
    have H1 := Lib.hid h1
    clear h1
    go_enter Tryd.func53, Tryd.ntmps53
    go_wp2
    go_ret
    exact ⟨by simp [H1.out], by (repeat (first | (with_reducible assumption) | (with_reducible exact Below.refl _ _) | (with_reducible refine Below.setCell ?_ (by first | (simp; done) | (simp; omega)) _) | (with_reducible refine Below.al ?_ _) | (with_reducible refine Below.dr ?_) | (with_reducible refine Below.drN ?_ _) | (with_reducible refine Below.tr ?_ (by with_reducible assumption))))⟩
def szLeft (left len : Int) : Int := if left - len < 0 then -1 else left - len
theorem szLeft_neg {left len : Int} (h : left - len < 0) : szLeft left len = -1 := if_pos h
theorem szLeft_pos {left len : Int} (h : ¬ left - len < 0) : szLeft left len = left - len := if_neg h
theorem c_laws_szInt64S (left : Int) (a : Option Addr) (len cap : Nat) (w : World) (hl : (len : Int) ≤ 9223372036854775807) (h0 : 0 ≤ left ∧ left ≤ 1048576) :
    Calls Tryd.prog 44 #[.slice a len cap, .int .i64 left] w fun e w' => e = .returned (.int .i64 (szLeft left len)) ∧ w = w' := by
  by_cases h : left - (len : Int) < 0
  · have HN := Lib.hid (szLeft_neg h)
    go_enter Tryd.func44, Tryd.ntmps44
    go_wp2
    go_ret
    exact ⟨by rw [HN.out]; rfl, rfl⟩
  · have HN := Lib.hid (szLeft_pos h)
    go_enter Tryd.func44, Tryd.ntmps44
    go_wp2
    go_ret
    exact ⟨by rw [HN.out]; rfl, rfl⟩
theorem c_laws_szDesk (left b d wd : Int) (a : Option Addr) (len cap : Nat) (w : World) (hl : (len : Int) ≤ 9223372036854775807) (h0 : 0 ≤ left ∧ left ≤ 1048576) :
    Calls Tryd.prog 19 #[.agg #[.slice a len cap, .int .i64 b, .int .i64 d, .int .i64 wd], .int .i64 left] w fun e w' => e = .returned (.int .i64 (szLeft left len)) ∧ Below w.heap.size w w' := by
  by_cases h : left - (len : Int) < 0
  · have HN := Lib.hid (szLeft_neg h)
    have ht : szLeft left len < 0 := by rw [HN.out]; decide
    go_enter Tryd.func19, Tryd.ntmps19
    go_wp2_with (go_at_call 44; refine (c_laws_szInt64S _ _ _ _ _ hl h0).mono ?_; rintro e w1 ⟨rfl, rfl⟩)
    go_ret
    exact ⟨by rw [HN.out]; rfl, by (repeat (first | (with_reducible assumption) | (with_reducible exact Below.refl _ _) | (with_reducible refine Below.setCell ?_ (by first | (simp; done) | (simp; omega)) _) | (with_reducible refine Below.al ?_ _) | (with_reducible refine Below.dr ?_) | (with_reducible refine Below.drN ?_ _) | (with_reducible refine Below.tr ?_ (by with_reducible assumption))))⟩
  · have HN := Lib.hid (szLeft_pos h)
    have ht : 0 ≤ szLeft left len := by rw [HN.out]; omega
    go_enter Tryd.func19, Tryd.ntmps19
    go_wp2_with (go_at_call 44; refine (c_laws_szInt64S _ _ _ _ _ hl h0).mono ?_; rintro e w1 ⟨rfl, rfl⟩)
    go_ret
    exact ⟨rfl, by (repeat (first | (with_reducible assumption) | (with_reducible exact Below.refl _ _) | (with_reducible refine Below.setCell ?_ (by first | (simp; done) | (simp; omega)) _) | (with_reducible refine Below.al ?_ _) | (with_reducible refine Below.dr ?_) | (with_reducible refine Below.drN ?_ _) | (with_reducible refine Below.tr ?_ (by with_reducible assumption))))⟩
theorem c_laws_toDesk (xs : List Int) (b d wd : Int) (v : Value) (w : World) (h : RdI w v xs) (hn : xs.length ≤ 1048576) :
    Calls Tryd.prog 21 #[.agg #[v, .int .i64 b, .int .i64 d, .int .i64 wd]] w fun e w' => ∃ g, e = .returned (.agg #[.slice (some ⟨g, 0, none⟩) xs.length xs.length, .int .i64 b, .int .i64 d, .int .i64 wd]) ∧ OwnI1 w.heap.size w' (.slice (some ⟨g, 0, none⟩) xs.length xs.length) xs ∧ Below w.heap.size w w' := by
  have h' := h
  obtain ⟨a1, cap1, rfl, hl1, _⟩ := h'
  go_enter Tryd.func21, Tryd.ntmps21
  go_wp2_with fail
  refine (c_laws_toInt64S xs _ _ ((((h.below (Below.refl _ _)).below ((Below.refl _ _).al _)).below ((Below.refl _ _).al _)).below ((Below.refl _ _).al _)) hn).mono ?_; rintro e w1 ⟨rfl, hown, hb1⟩; obtain ⟨hc1, hf1⟩ := bcell hb1; have hz1_0 : w.heap.size < w1.heap.size := Nat.lt_of_lt_of_le (by first | omega | (simp; done) | (simp; omega)) hb1.size; have hz1_1 : w.heap.size + 1 < w1.heap.size := Nat.lt_of_lt_of_le (by first | omega | (simp; done) | (simp; omega)) hb1.size; have hz1_2 : w.heap.size + 1 + 1 < w1.heap.size := Nat.lt_of_lt_of_le (by first | omega | (simp; done) | (simp; omega)) hb1.size
  go_wp2_with fail
  refine (c_laws_toTiming _ _ _).mono ?_; rintro e w2 ⟨rfl, hb2⟩; obtain ⟨hc2, hf2⟩ := bcell hb2; have hz2_0 : w.heap.size < w2.heap.size := Nat.lt_of_lt_of_le (by first | omega | (simp; done) | (simp; omega)) hb2.size; have hz2_1 : w.heap.size + 1 < w2.heap.size := Nat.lt_of_lt_of_le (by first | omega | (simp; done) | (simp; omega)) hb2.size; have hz2_2 : w.heap.size + 1 + 1 < w2.heap.size := Nat.lt_of_lt_of_le (by first | omega | (simp; done) | (simp; omega)) hb2.size
  go_wp2
  refine bodyPost_ret (v := .agg #[.slice (some ⟨w.heap.size + 1 + 1 + 1, 0, none⟩) xs.length xs.length, .int .i64 b, .int .i64 d, .int .i64 wd]) (by simp [results, Tryd.results21, go_sem, hc2, hz1_1, hc1]) rfl ⟨_, rfl, ?_, ?_⟩
  · refine OwnI.base (B := w.heap.size + 1 + 1 + 1) ?_ (by omega)
    have hown' : OwnI 2 (w.heap.size + 1 + 1 + 1) w1 (.slice (some ⟨w.heap.size + 1 + 1 + 1, 0, none⟩) xs.length xs.length) xs := by simpa using hown
    (repeat (first | (with_reducible assumption) | (with_reducible refine OwnI.setBelow ?_ (by first | (simp; done) | (simp; omega)) _) | (with_reducible refine OwnI.al ?_ _) | (with_reducible refine OwnI.dr ?_) | (with_reducible refine OwnI.drN ?_ _) | (with_reducible refine OwnI.below ?_ (by with_reducible assumption))))
  · (repeat (first | (with_reducible assumption) | (with_reducible exact Below.refl _ _) | (with_reducible refine Below.setCell ?_ (by first | (simp; done) | (simp; omega)) _) | (with_reducible refine Below.al ?_ _) | (with_reducible refine Below.dr ?_) | (with_reducible refine Below.drN ?_ _) | (with_reducible refine Below.tr ?_ (by with_reducible assumption))))
theorem c_laws_eqDesk (xs : List Int) (b d wd : Int) (v1 v2 : Value) (w : World) (h1 : RdI w v1 xs) (h2 : RdI w v2 xs) :
    Calls Tryd.prog 23 #[.agg #[v1, .int .i64 b, .int .i64 d, .int .i64 wd], .agg #[v2, .int .i64 b, .int .i64 d, .int .i64 wd]] w fun e w' => e = .returned (.bool true) ∧ Below w.heap.size w w' := by
  have h1' := h1
  have h2' := h2
  obtain ⟨a1, cap1, rfl, _, _⟩ := h1'
  obtain ⟨a2, cap2, rfl, _, _⟩ := h2'
  go_enter Tryd.func23, Tryd.ntmps23
  go_wp2_with fail
  refine (c_laws_eqInt64S xs xs _ _ _ ((h1.below ((Below.refl _ _).al _)).below ((Below.refl _ _).al _)) ((h2.below ((Below.refl _ _).al _)).below ((Below.refl _ _).al _))).mono ?_; rintro e w1 ⟨rfl, hb1⟩; obtain ⟨hc1, hf1⟩ := bcell hb1; have hz1_0 : w.heap.size < w1.heap.size := Nat.lt_of_lt_of_le (by first | omega | (simp; done) | (simp; omega)) hb1.size; have hz1_1 : w.heap.size + 1 < w1.heap.size := Nat.lt_of_lt_of_le (by first | omega | (simp; done) | (simp; omega)) hb1.size
  go_wp2_with fail
  refine (c_laws_eqTiming _ _ _ _ _).mono ?_; rintro e w2 ⟨rfl, hb2⟩; obtain ⟨hc2, hf2⟩ := bcell hb2; have hz2_0 : w.heap.size < w2.heap.size := Nat.lt_of_lt_of_le (by first | omega | (simp; done) | (simp; omega)) hb2.size; have hz2_1 : w.heap.size + 1 < w2.heap.size := Nat.lt_of_lt_of_le (by first | omega | (simp; done) | (simp; omega)) hb2.size
  have tt : (decide (b = b ∧ d = d)) = true := by simp
  have t2 : (wd != wd) = false := by simp
  go_wp2
  go_ret
  exact ⟨rfl, by (repeat (first | (with_reducible assumption) | (with_reducible exact Below.refl _ _) | (with_reducible refine Below.setCell ?_ (by first | (simp; done) | (simp; omega)) _) | (with_reducible refine Below.al ?_ _) | (with_reducible refine Below.dr ?_) | (with_reducible refine Below.drN ?_ _) | (with_reducible refine Below.tr ?_ (by with_reducible assumption))))⟩
def sameDeskB (xs : List Int) (b d wd : Int) (ys : List Int) (b' d' wd' : Int) : Bool := decide (xs = ys) && decide (b = b') && decide (d = d') && (wd == wd')
end Go.Proofs.YtddfdppoclnpcaaDoor
