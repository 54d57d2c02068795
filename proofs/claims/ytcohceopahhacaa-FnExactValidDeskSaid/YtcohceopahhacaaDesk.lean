/- Contracts on desks: copies, comparisons. -/
import Derived.Test.YtcohceopahhacaaLawI
import Derived.Test.YtcohceopahhacaaArgs
namespace Go.Proofs.Ytcohceopahhacaa
open Go.ChangeShapes Go.WideShapes Go.ChangeAt Go.RowKit
set_option linter.unusedVariables false
set_option maxHeartbeats 1000000 in
theorem c_spec_l00Same (xs ys : List Int) (v1 v2 : Value) (w : World) (h1 : RdI w v1 xs) (h2 : RdI w v2 ys) :
    Calls Try.prog 50 #[v1, v2] w fun e w' => e = .returned (.bool (decide (xs = ys))) ∧ Below w.heap.size w w' := by
  obtain ⟨a1, cap1, rfl, hl1, hc1⟩ := h1
  obtain ⟨a2, cap2, rfl, hl2, hc2⟩ := h2
  by_cases hlen : xs.length = ys.length
  · have hb0 : ((xs.length : Int) != (ys.length : Int)) = false := by simp [hlen]
    have Hlen : Hid (xs.length = ys.length) := hlen
    clear hlen
    go_enter Try.func50, Try.ntmps50
    go_wp2
    go_loopw [5] (fun i wr => ∃ k : Nat, k ≤ xs.length ∧ i = .int .i64 k ∧ Hid (xs.take k = ys.take k) ∧ Below w.heap.size w wr) (fun i _ => xs.length - (intOf i).toNat)
    case atStart => exact ⟨0, by omega, rfl, rfl, Below.refl _ _⟩
    case round =>
      obtain ⟨k, hk, rfl, heq, hb⟩ := hrel
      by_cases hlt : k < xs.length
      · obtain ⟨b1, o1, rfl, hx⟩ := hc1 k hlt
        obtain ⟨b2, o2, rfl, hy⟩ := hc2 k (by have := Hlen.out; omega)
        have hx' : wr.cell? ⟨b1, o1 + k, none⟩ = some (.int .i64 (xs.getD k 0)) := by rw [hb.cell (p := ⟨b1, o1 + k, none⟩) (World.block_lt_of_cell? w _ hx)]; exact hx
        have hy' : wr.cell? ⟨b2, o2 + k, none⟩ = some (.int .i64 (ys.getD k 0)) := by rw [hb.cell (p := ⟨b2, o2 + k, none⟩) (World.block_lt_of_cell? w _ hy)]; exact hy
        clear hx hy hc1 hc2
        have hlt2 : k < ys.length := by have := Hlen.out; omega
        obtain ⟨x, Hx⟩ : ∃ x, Hid (xs.getD k 0 = x) := ⟨_, rfl⟩
        obtain ⟨y, Hy⟩ : ∃ y, Hid (ys.getD k 0 = y) := ⟨_, rfl⟩
        rw [Hx.out] at hx'
        rw [Hy.out] at hy'
        by_cases hxy : x = y
        · have ht : (x != y) = false := by simp [hxy]
          have Hxy : Hid (x = y) := hxy
          clear hxy
          go_wp2
          go_quiet (fail)
          go_wp2
          go_roundw
          case rel => exact ⟨k + 1, by omega, by go_num, eq_take_succ hlt hlt2 heq.out (by rw [Hx.out, Hy.out]; exact Hxy.out), by (repeat (first | (with_reducible assumption) | (with_reducible exact Below.refl _ _) | (with_reducible refine Below.setCell ?_ (by first | (simp; done) | (simp; omega)) _) | (with_reducible refine Below.al ?_ _) | (with_reducible refine Below.dr ?_) | (with_reducible refine Below.drN ?_ _) | (with_reducible refine Below.tr ?_ (by with_reducible assumption))))⟩
          case measure => simp [intOf]; omega
        · have ht : (x != y) = true := by simp [hxy]
          have hne := ne_of_at (xs := xs) (ys := ys) k (by rw [Hx.out, Hy.out]; exact hxy)
          go_wp2
          go_quiet (fail)
          go_wp2
          go_ret
          exact ⟨by simp [hne], by (repeat (first | (with_reducible assumption) | (with_reducible exact Below.refl _ _) | (with_reducible refine Below.setCell ?_ (by first | (simp; done) | (simp; omega)) _) | (with_reducible refine Below.al ?_ _) | (with_reducible refine Below.dr ?_) | (with_reducible refine Below.drN ?_ _) | (with_reducible refine Below.tr ?_ (by with_reducible assumption))))⟩
      · have he : Hid (xs = ys) := by
          have h := heq.out
          rw [List.take_of_length_le (by omega), List.take_of_length_le (by have := Hlen.out; omega)] at h
          exact h
        go_wp2
        go_ret
        exact ⟨by simp [he.out], by (repeat (first | (with_reducible assumption) | (with_reducible exact Below.refl _ _) | (with_reducible refine Below.setCell ?_ (by first | (simp; done) | (simp; omega)) _) | (with_reducible refine Below.al ?_ _) | (with_reducible refine Below.dr ?_) | (with_reducible refine Below.drN ?_ _) | (with_reducible refine Below.tr ?_ (by with_reducible assumption))))⟩
  · have hb0 : ((xs.length : Int) != (ys.length : Int)) = true := by simp; omega
    have hne : xs ≠ ys := fun e => hlen (by rw [e])
    go_enter Try.func50, Try.ntmps50
    go_wp2
    go_ret
    exact ⟨by simp [hne], by (repeat (first | (with_reducible assumption) | (with_reducible exact Below.refl _ _) | (with_reducible refine Below.setCell ?_ (by first | (simp; done) | (simp; omega)) _) | (with_reducible refine Below.al ?_ _) | (with_reducible refine Below.dr ?_) | (with_reducible refine Below.drN ?_ _) | (with_reducible refine Below.tr ?_ (by with_reducible assumption))))⟩
set_option maxHeartbeats 1000000 in
theorem c_impl_sameNumbers (xs ys : List Int) (v1 v2 : Value) (w : World) (h1 : RdI w v1 xs) (h2 : RdI w v2 ys) :
    Calls Try.prog 53 #[v1, v2] w fun e w' => e = .returned (.bool (decide (xs = ys))) ∧ Below w.heap.size w w' := by
  obtain ⟨a1, cap1, rfl, hl1, hc1⟩ := h1
  obtain ⟨a2, cap2, rfl, hl2, hc2⟩ := h2
  by_cases hlen : xs.length = ys.length
  · have hb0 : ((xs.length : Int) != (ys.length : Int)) = false := by simp [hlen]
    have Hlen : Hid (xs.length = ys.length) := hlen
    clear hlen
    go_enter Try.func53, Try.ntmps53
    go_wp2
    go_loopw [5, 13] (fun _ i wr => ∃ k : Nat, k ≤ xs.length ∧ i = .int .i64 k ∧ Hid (xs.take k = ys.take k) ∧ Below w.heap.size w wr) (fun _ i _ => xs.length - (intOf i).toNat)
    case atStart => exact ⟨0, by omega, rfl, rfl, Below.refl _ _⟩
    case round =>
      obtain ⟨k, hk, rfl, heq, hb⟩ := hrel
      by_cases hlt : k < xs.length
      · obtain ⟨b1, o1, rfl, hx⟩ := hc1 k hlt
        obtain ⟨b2, o2, rfl, hy⟩ := hc2 k (by have := Hlen.out; omega)
        have hx' : wr.cell? ⟨b1, o1 + k, none⟩ = some (.int .i64 (xs.getD k 0)) := by rw [hb.cell (p := ⟨b1, o1 + k, none⟩) (World.block_lt_of_cell? w _ hx)]; exact hx
        have hy' : wr.cell? ⟨b2, o2 + k, none⟩ = some (.int .i64 (ys.getD k 0)) := by rw [hb.cell (p := ⟨b2, o2 + k, none⟩) (World.block_lt_of_cell? w _ hy)]; exact hy
        clear hx hy hc1 hc2
        have hlt2 : k < ys.length := by have := Hlen.out; omega
        obtain ⟨x, Hx⟩ : ∃ x, Hid (xs.getD k 0 = x) := ⟨_, rfl⟩
        obtain ⟨y, Hy⟩ : ∃ y, Hid (ys.getD k 0 = y) := ⟨_, rfl⟩
        rw [Hx.out] at hx'
        rw [Hy.out] at hy'
        by_cases hxy : x = y
        · have ht : (x != y) = false := by simp [hxy]
          have Hxy : Hid (x = y) := hxy
          clear hxy
          go_wp2
          go_quiet (fail)
          go_wp2
          go_roundw
          case rel => exact ⟨k + 1, by omega, by go_num, eq_take_succ hlt hlt2 heq.out (by rw [Hx.out, Hy.out]; exact Hxy.out), by (repeat (first | (with_reducible assumption) | (with_reducible exact Below.refl _ _) | (with_reducible refine Below.setCell ?_ (by first | (simp; done) | (simp; omega)) _) | (with_reducible refine Below.al ?_ _) | (with_reducible refine Below.dr ?_) | (with_reducible refine Below.drN ?_ _) | (with_reducible refine Below.tr ?_ (by with_reducible assumption))))⟩
          case measure => simp [intOf]; omega
        · have ht : (x != y) = true := by simp [hxy]
          have hne := ne_of_at (xs := xs) (ys := ys) k (by rw [Hx.out, Hy.out]; exact hxy)
          go_wp2
          go_quiet (fail)
          go_wp2
          go_ret
          exact ⟨by simp [hne], by (repeat (first | (with_reducible assumption) | (with_reducible exact Below.refl _ _) | (with_reducible refine Below.setCell ?_ (by first | (simp; done) | (simp; omega)) _) | (with_reducible refine Below.al ?_ _) | (with_reducible refine Below.dr ?_) | (with_reducible refine Below.drN ?_ _) | (with_reducible refine Below.tr ?_ (by with_reducible assumption))))⟩
      · have he : Hid (xs = ys) := by
          have h := heq.out
          rw [List.take_of_length_le (by omega), List.take_of_length_le (by have := Hlen.out; omega)] at h
          exact h
        go_wp2
        go_ret
        exact ⟨by simp [he.out], by (repeat (first | (with_reducible assumption) | (with_reducible exact Below.refl _ _) | (with_reducible refine Below.setCell ?_ (by first | (simp; done) | (simp; omega)) _) | (with_reducible refine Below.al ?_ _) | (with_reducible refine Below.dr ?_) | (with_reducible refine Below.drN ?_ _) | (with_reducible refine Below.tr ?_ (by with_reducible assumption))))⟩
  · have hb0 : ((xs.length : Int) != (ys.length : Int)) = true := by simp; omega
    have hne : xs ≠ ys := fun e => hlen (by rw [e])
    go_enter Try.func53, Try.ntmps53
    go_wp2
    go_ret
    exact ⟨by simp [hne], by (repeat (first | (with_reducible assumption) | (with_reducible exact Below.refl _ _) | (with_reducible refine Below.setCell ?_ (by first | (simp; done) | (simp; omega)) _) | (with_reducible refine Below.al ?_ _) | (with_reducible refine Below.dr ?_) | (with_reducible refine Below.drN ?_ _) | (with_reducible refine Below.tr ?_ (by with_reducible assumption))))⟩
set_option maxHeartbeats 1000000 in
theorem c_laws_toInt64S (xs : List Int) (v : Value) (w : World) (h : RdI w v xs) (hn : xs.length ≤ 1048576) :
    Calls Try.prog 51 #[v] w fun e w' => e = .returned (.slice (some ⟨w.heap.size, 0, none⟩) xs.length xs.length) ∧ OwnI1 w.heap.size w' (.slice (some ⟨w.heap.size, 0, none⟩) xs.length xs.length) xs ∧ Below w.heap.size w w' := by
  obtain ⟨a1, cap1, rfl, hl1, hc1⟩ := h
  go_enter Try.func51, Try.ntmps51
  go_wp2_with (at_make; refine make_int rfl _ _ _ _ rfl Try.underlying29 infoI w.heap.size _ _ _ _ _ xs.length rfl rfl rfl rfl (by omega) (Nat.le_refl _) ?_; intro w1 hown hbel hsz)
  have hb1 := hbel w (Below.refl _ _)
  clear hbel hn hsz
  go_loopw [4] (fun i wr => ∃ k : Nat, k ≤ xs.length ∧ i = .int .i64 k ∧ OwnI1 w.heap.size wr (.slice (some ⟨w.heap.size, 0, none⟩) xs.length xs.length) (filled (List.replicate xs.length 0) xs k) ∧ Below w.heap.size w wr) (fun i _ => xs.length - (intOf i).toNat)
  case atStart => exact ⟨0, by omega, rfl, by rw [filled_zero]; exact hown, hb1⟩
  case round =>
    obtain ⟨k, hk, rfl, hown', hb⟩ := hrel
    have hfl := filled_length (List.replicate xs.length 0) xs k (by simp) (by simpa using hk)
    have hfl' : (filled (List.replicate xs.length 0) xs k).length = xs.length := by simpa using hfl
    by_cases hlt : k < xs.length
    · obtain ⟨b1, o1, rfl, hx⟩ := hc1 k hlt
      have hx' : wr.cell? ⟨b1, o1 + k, none⟩ = some (.int .i64 (xs.getD k 0)) := by rw [hb.cell (p := ⟨b1, o1 + k, none⟩) (World.block_lt_of_cell? w _ hx)]; exact hx
      have hst := OwnI.store (E := 2) (B := w.heap.size) (a := wr) (g := w.heap.size) (cap := xs.length) (xs := filled (List.replicate xs.length 0) xs k) (by rw [hfl']; exact hown') k (xs.getD k 0)
      rw [filled_succ _ _ _ (by simp) (by simpa using hlt), hfl'] at hst
      obtain ⟨⟨old, hck⟩, hfk⟩ := OwnI.at (E := 2) (B := w.heap.size) (a := wr) (g := w.heap.size) (xs := filled (List.replicate xs.length 0) xs k) hown' k (by omega)
      generalize xs.getD k 0 = x at hx' hst
      have HST := Lib.hid hst
      clear hfl hfl' hown' hown hx hc1 hst
      go_wp2
      go_roundw
      case rel => exact ⟨k + 1, by omega, by go_num, HST.out.1, hb.grown HST.out.2 (by have := hb.size; omega) (fun j hj => by simp only [Option.some.injEq] at hj; omega)⟩
      case measure => simp [intOf]; omega
    · obtain rfl : k = xs.length := by omega
      have H : Hid (filled (List.replicate xs.length 0) xs xs.length = xs) := by have := filled_all (List.replicate xs.length 0) xs (by simp); simp only [List.length_replicate] at this; exact this
      clear hfl hfl'
      go_wp2
      go_ret
      exact ⟨rfl, by have h := hown'; rw [H.out] at h; exact h, hb⟩
theorem c_laws_toTiming (b d : Int) (w : World) :
    Calls Try.prog 52 #[.agg #[.int .i64 b, .int .i64 d]] w fun e w' => e = .returned (.agg #[.int .i64 b, .int .i64 d]) ∧ Below w.heap.size w w' := by
  go_enter Try.func52, Try.ntmps52
  go_wp2
  exact bodyPost_ret (v := .agg #[.int .i64 b, .int .i64 d]) (by simp [results, Try.results52, go_sem]) rfl ⟨rfl, by (repeat (first | (with_reducible assumption) | (with_reducible exact Below.refl _ _) | (with_reducible refine Below.setCell ?_ (by first | (simp; done) | (simp; omega)) _) | (with_reducible refine Below.al ?_ _) | (with_reducible refine Below.dr ?_) | (with_reducible refine Below.drN ?_ _) | (with_reducible refine Below.tr ?_ (by with_reducible assumption))))⟩
theorem c_laws_eqTiming (b d b' d' : Int) (w : World) :
    Calls Try.prog 44 #[.agg #[.int .i64 b, .int .i64 d], .agg #[.int .i64 b', .int .i64 d']] w fun e w' => e = .returned (.bool (decide (b = b' ∧ d = d'))) ∧ Below w.heap.size w w' := by
  by_cases h1 : b = b'
  · have t1 : (b != b') = false := by simp [h1]
    have H1 := Lib.hid h1
    clear h1
    by_cases h2 : d = d'
    · have t2 : (d != d') = false := by simp [h2]
      have H2 := Lib.hid h2
      clear h2
      go_enter Try.func44, Try.ntmps44
      go_wp2
      go_ret
      exact ⟨by simp [H1.out, H2.out], by (repeat (first | (with_reducible assumption) | (with_reducible exact Below.refl _ _) | (with_reducible refine Below.setCell ?_ (by first | (simp; done) | (simp; omega)) _) | (with_reducible refine Below.al ?_ _) | (with_reducible refine Below.dr ?_) | (with_reducible refine Below.drN ?_ _) | (with_reducible refine Below.tr ?_ (by with_reducible assumption))))⟩
    · have t2 : (d != d') = true := by simp [h2]
      have H2 := Lib.hid h2
      clear h2
      go_enter Try.func44, Try.ntmps44
      go_wp2
      go_ret
      exact ⟨by simp [H2.out], by (repeat (first | (with_reducible assumption) | (with_reducible exact Below.refl _ _) | (with_reducible refine Below.setCell ?_ (by first | (simp; done) | (simp; omega)) _) | (with_reducible refine Below.al ?_ _) | (with_reducible refine Below.dr ?_) | (with_reducible refine Below.drN ?_ _) | (with_reducible refine Below.tr ?_ (by with_reducible assumption))))⟩
  · have t1 : (b != b') = true := by simp [h1]
    have H1 := Lib.hid h1
    clear h1
    go_enter Try.func44, Try.ntmps44
    go_wp2
    go_ret
    exact ⟨by simp [H1.out], by (repeat (first | (with_reducible assumption) | (with_reducible exact Below.refl _ _) | (with_reducible refine Below.setCell ?_ (by first | (simp; done) | (simp; omega)) _) | (with_reducible refine Below.al ?_ _) | (with_reducible refine Below.dr ?_) | (with_reducible refine Below.drN ?_ _) | (with_reducible refine Below.tr ?_ (by with_reducible assumption))))⟩
def szLeft (left len : Int) : Int := if left - len < 0 then -1 else left - len
theorem szLeft_neg {left len : Int} (h : left - len < 0) : szLeft left len = -1 := if_pos h
theorem szLeft_pos {left len : Int} (h : ¬ left - len < 0) : szLeft left len = left - len := if_neg h
theorem c_laws_szInt64S (left : Int) (a : Option Addr) (len cap : Nat) (w : World) (hl : (len : Int) ≤ 9223372036854775807) (h0 : 0 ≤ left ∧ left ≤ 1048576) :
    Calls Try.prog 49 #[.slice a len cap, .int .i64 left] w fun e w' => e = .returned (.int .i64 (szLeft left len)) ∧ w = w' := by
  by_cases h : left - (len : Int) < 0
  · have HN := Lib.hid (szLeft_neg h)
    go_enter Try.func49, Try.ntmps49
    go_wp2
    go_ret
    exact ⟨by rw [HN.out]; rfl, rfl⟩
  · have HN := Lib.hid (szLeft_pos h)
    go_enter Try.func49, Try.ntmps49
    go_wp2
    go_ret
    exact ⟨by rw [HN.out]; rfl, rfl⟩
theorem c_laws_szDesk (left b d wd : Int) (a : Option Addr) (len cap : Nat) (w : World) (hl : (len : Int) ≤ 9223372036854775807) (h0 : 0 ≤ left ∧ left ≤ 1048576) :
    Calls Try.prog 28 #[.agg #[.slice a len cap, .int .i64 b, .int .i64 d, .int .i64 wd], .int .i64 left] w fun e w' => e = .returned (.int .i64 (szLeft left len)) ∧ Below w.heap.size w w' := by
  by_cases h : left - (len : Int) < 0
  · have HN := Lib.hid (szLeft_neg h)
    have ht : szLeft left len < 0 := by rw [HN.out]; decide
    go_enter Try.func28, Try.ntmps28
    go_wp2_with (go_at_call 49; refine (c_laws_szInt64S _ _ _ _ _ hl h0).mono ?_; rintro e w1 ⟨rfl, rfl⟩)
    go_ret
    exact ⟨by rw [HN.out]; rfl, by (repeat (first | (with_reducible assumption) | (with_reducible exact Below.refl _ _) | (with_reducible refine Below.setCell ?_ (by first | (simp; done) | (simp; omega)) _) | (with_reducible refine Below.al ?_ _) | (with_reducible refine Below.dr ?_) | (with_reducible refine Below.drN ?_ _) | (with_reducible refine Below.tr ?_ (by with_reducible assumption))))⟩
  · have HN := Lib.hid (szLeft_pos h)
    have ht : 0 ≤ szLeft left len := by rw [HN.out]; omega
    go_enter Try.func28, Try.ntmps28
    go_wp2_with (go_at_call 49; refine (c_laws_szInt64S _ _ _ _ _ hl h0).mono ?_; rintro e w1 ⟨rfl, rfl⟩)
    go_ret
    exact ⟨rfl, by (repeat (first | (with_reducible assumption) | (with_reducible exact Below.refl _ _) | (with_reducible refine Below.setCell ?_ (by first | (simp; done) | (simp; omega)) _) | (with_reducible refine Below.al ?_ _) | (with_reducible refine Below.dr ?_) | (with_reducible refine Below.drN ?_ _) | (with_reducible refine Below.tr ?_ (by with_reducible assumption))))⟩
theorem c_laws_toDesk (xs : List Int) (b d wd : Int) (v : Value) (w : World) (h : RdI w v xs) (hn : xs.length ≤ 1048576) :
    Calls Try.prog 30 #[.agg #[v, .int .i64 b, .int .i64 d, .int .i64 wd]] w fun e w' => ∃ g, e = .returned (.agg #[.slice (some ⟨g, 0, none⟩) xs.length xs.length, .int .i64 b, .int .i64 d, .int .i64 wd]) ∧ OwnI1 w.heap.size w' (.slice (some ⟨g, 0, none⟩) xs.length xs.length) xs ∧ Below w.heap.size w w' := by
  have h' := h
  obtain ⟨a1, cap1, rfl, hl1, _⟩ := h'
  go_enter Try.func30, Try.ntmps30
  go_wp2_with fail
  refine (c_laws_toInt64S xs _ _ ((((h.below (Below.refl _ _)).below ((Below.refl _ _).al _)).below ((Below.refl _ _).al _)).below ((Below.refl _ _).al _)) hn).mono ?_; rintro e w1 ⟨rfl, hown, hb1⟩; obtain ⟨hc1, hf1⟩ := bcell hb1; have hz1_0 : w.heap.size < w1.heap.size := Nat.lt_of_lt_of_le (by first | omega | (simp; done) | (simp; omega)) hb1.size; have hz1_1 : w.heap.size + 1 < w1.heap.size := Nat.lt_of_lt_of_le (by first | omega | (simp; done) | (simp; omega)) hb1.size; have hz1_2 : w.heap.size + 1 + 1 < w1.heap.size := Nat.lt_of_lt_of_le (by first | omega | (simp; done) | (simp; omega)) hb1.size
  go_wp2_with fail
  refine (c_laws_toTiming _ _ _).mono ?_; rintro e w2 ⟨rfl, hb2⟩; obtain ⟨hc2, hf2⟩ := bcell hb2; have hz2_0 : w.heap.size < w2.heap.size := Nat.lt_of_lt_of_le (by first | omega | (simp; done) | (simp; omega)) hb2.size; have hz2_1 : w.heap.size + 1 < w2.heap.size := Nat.lt_of_lt_of_le (by first | omega | (simp; done) | (simp; omega)) hb2.size; have hz2_2 : w.heap.size + 1 + 1 < w2.heap.size := Nat.lt_of_lt_of_le (by first | omega | (simp; done) | (simp; omega)) hb2.size
  go_wp2
  refine bodyPost_ret (v := .agg #[.slice (some ⟨w.heap.size + 1 + 1 + 1, 0, none⟩) xs.length xs.length, .int .i64 b, .int .i64 d, .int .i64 wd]) (by simp [results, Try.results30, go_sem, hc2, hz1_1, hc1]) rfl ⟨_, rfl, ?_, ?_⟩
  · refine OwnI.base (B := w.heap.size + 1 + 1 + 1) ?_ (by omega)
    have hown' : OwnI 2 (w.heap.size + 1 + 1 + 1) w1 (.slice (some ⟨w.heap.size + 1 + 1 + 1, 0, none⟩) xs.length xs.length) xs := by simpa using hown
    (repeat (first | (with_reducible assumption) | (with_reducible refine OwnI.setBelow ?_ (by first | (simp; done) | (simp; omega)) _) | (with_reducible refine OwnI.al ?_ _) | (with_reducible refine OwnI.dr ?_) | (with_reducible refine OwnI.drN ?_ _) | (with_reducible refine OwnI.below ?_ (by with_reducible assumption))))
  · (repeat (first | (with_reducible assumption) | (with_reducible exact Below.refl _ _) | (with_reducible refine Below.setCell ?_ (by first | (simp; done) | (simp; omega)) _) | (with_reducible refine Below.al ?_ _) | (with_reducible refine Below.dr ?_) | (with_reducible refine Below.drN ?_ _) | (with_reducible refine Below.tr ?_ (by with_reducible assumption))))
theorem c_laws_eqDesk (xs : List Int) (b d wd : Int) (v1 v2 : Value) (w : World) (h1 : RdI w v1 xs) (h2 : RdI w v2 xs) :
    Calls Try.prog 19 #[.agg #[v1, .int .i64 b, .int .i64 d, .int .i64 wd], .agg #[v2, .int .i64 b, .int .i64 d, .int .i64 wd]] w fun e w' => e = .returned (.bool true) ∧ Below w.heap.size w w' := by
  have h1' := h1
  have h2' := h2
  obtain ⟨a1, cap1, rfl, _, _⟩ := h1'
  obtain ⟨a2, cap2, rfl, _, _⟩ := h2'
  go_enter Try.func19, Try.ntmps19
  go_wp2_with fail
  refine (c_laws_eqInt64S xs xs _ _ _ ((h1.below ((Below.refl _ _).al _)).below ((Below.refl _ _).al _)) ((h2.below ((Below.refl _ _).al _)).below ((Below.refl _ _).al _))).mono ?_; rintro e w1 ⟨rfl, hb1⟩; obtain ⟨hc1, hf1⟩ := bcell hb1; have hz1_0 : w.heap.size < w1.heap.size := Nat.lt_of_lt_of_le (by first | omega | (simp; done) | (simp; omega)) hb1.size; have hz1_1 : w.heap.size + 1 < w1.heap.size := Nat.lt_of_lt_of_le (by first | omega | (simp; done) | (simp; omega)) hb1.size
  go_wp2_with fail
  refine (c_laws_eqTiming _ _ _ _ _).mono ?_; rintro e w2 ⟨rfl, hb2⟩; obtain ⟨hc2, hf2⟩ := bcell hb2; have hz2_0 : w.heap.size < w2.heap.size := Nat.lt_of_lt_of_le (by first | omega | (simp; done) | (simp; omega)) hb2.size; have hz2_1 : w.heap.size + 1 < w2.heap.size := Nat.lt_of_lt_of_le (by first | omega | (simp; done) | (simp; omega)) hb2.size
  have tt : (decide (b = b ∧ d = d)) = true := by simp
  have t2 : (wd != wd) = false := by simp
  go_wp2
  go_ret
  exact ⟨rfl, by (repeat (first | (with_reducible assumption) | (with_reducible exact Below.refl _ _) | (with_reducible refine Below.setCell ?_ (by first | (simp; done) | (simp; omega)) _) | (with_reducible refine Below.al ?_ _) | (with_reducible refine Below.dr ?_) | (with_reducible refine Below.drN ?_ _) | (with_reducible refine Below.tr ?_ (by with_reducible assumption))))⟩
def sameDeskB (xs : List Int) (b d wd : Int) (ys : List Int) (b' d' wd' : Int) : Bool := decide (xs = ys) && decide (b = b') && decide (d = d') && (wd == wd')
theorem c_impl_SameDesk (xs ys : List Int) (b d wd b' d' wd' : Int) (v1 v2 : Value) (w : World) (h1 : RdI w v1 xs) (h2 : RdI w v2 ys) :
    Calls Try.prog 31 #[.agg #[v1, .int .i64 b, .int .i64 d, .int .i64 wd], .agg #[v2, .int .i64 b', .int .i64 d', .int .i64 wd']] w fun e w' => e = .returned (.bool (sameDeskB xs b d wd ys b' d' wd')) ∧ Below w.heap.size w w' := by
  have h1' := h1
  have h2' := h2
  obtain ⟨a1, cap1, rfl, _, _⟩ := h1'
  obtain ⟨a2, cap2, rfl, _, _⟩ := h2'
  cases hxy : decide (xs = ys)
  all_goals
    go_enter Try.func31, Try.ntmps31
    go_wp2_with fail
    refine (c_impl_sameNumbers xs ys _ _ _ ((h1.below ((Below.refl _ _).al _)).below ((Below.refl _ _).al _)) ((h2.below ((Below.refl _ _).al _)).below ((Below.refl _ _).al _))).mono ?_; rintro e w1 ⟨rfl, hb1⟩; obtain ⟨hc1, hf1⟩ := bcell hb1; have hz1_0 : w.heap.size < w1.heap.size := Nat.lt_of_lt_of_le (by first | omega | (simp; done) | (simp; omega)) hb1.size; have hz1_1 : w.heap.size + 1 < w1.heap.size := Nat.lt_of_lt_of_le (by first | omega | (simp; done) | (simp; omega)) hb1.size
    go_wp2
    all_goals
      go_ret
      exact ⟨by simp [sameDeskB, *], by (repeat (first | (with_reducible assumption) | (with_reducible exact Below.refl _ _) | (with_reducible refine Below.setCell ?_ (by first | (simp; done) | (simp; omega)) _) | (with_reducible refine Below.al ?_ _) | (with_reducible refine Below.dr ?_) | (with_reducible refine Below.drN ?_ _) | (with_reducible refine Below.tr ?_ (by with_reducible assumption))))⟩
theorem c_spec_SameDesk (xs ys : List Int) (b d wd b' d' wd' : Int) (v1 v2 : Value) (w : World) (h1 : RdI w v1 xs) (h2 : RdI w v2 ys) :
    Calls Try.prog 29 #[.agg #[v1, .int .i64 b, .int .i64 d, .int .i64 wd], .agg #[v2, .int .i64 b', .int .i64 d', .int .i64 wd']] w fun e w' => e = .returned (.bool (sameDeskB xs b d wd ys b' d' wd')) ∧ Below w.heap.size w w' := by
  have h1' := h1
  have h2' := h2
  obtain ⟨a1, cap1, rfl, _, _⟩ := h1'
  obtain ⟨a2, cap2, rfl, _, _⟩ := h2'
  cases hxy : decide (xs = ys)
  all_goals
    go_enter Try.func29, Try.ntmps29
    go_wp2_with fail
    refine (c_spec_l00Same xs ys _ _ _ ((h1.below ((Below.refl _ _).al _)).below ((Below.refl _ _).al _)) ((h2.below ((Below.refl _ _).al _)).below ((Below.refl _ _).al _))).mono ?_; rintro e w1 ⟨rfl, hb1⟩; obtain ⟨hc1, hf1⟩ := bcell hb1; have hz1_0 : w.heap.size < w1.heap.size := Nat.lt_of_lt_of_le (by first | omega | (simp; done) | (simp; omega)) hb1.size; have hz1_1 : w.heap.size + 1 < w1.heap.size := Nat.lt_of_lt_of_le (by first | omega | (simp; done) | (simp; omega)) hb1.size
    go_wp2
    all_goals
      go_ret
      exact ⟨by simp [sameDeskB, *], by (repeat (first | (with_reducible assumption) | (with_reducible exact Below.refl _ _) | (with_reducible refine Below.setCell ?_ (by first | (simp; done) | (simp; omega)) _) | (with_reducible refine Below.al ?_ _) | (with_reducible refine Below.dr ?_) | (with_reducible refine Below.drN ?_ _) | (with_reducible refine Below.tr ?_ (by with_reducible assumption))))⟩
end Go.Proofs.Ytcohceopahhacaa
