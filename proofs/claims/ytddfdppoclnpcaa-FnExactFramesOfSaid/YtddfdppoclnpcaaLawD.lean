/- Contracts of the laws' helpers on slices of dots and on frames: mark, held. -/
import Derived.Test.YtddfdppoclnpcaaFrames
namespace Go.Proofs.Ytddfdppoclnpcaa
open Go.ChangeShapes Go.WideShapes Go.ChangeAt Go.RowKit
set_option linter.unusedVariables false
set_option linter.unusedSimpArgs false
abbrev OwnD (lo hi : Nat) (w : World) (v : Value) (xs : List Dot5) : Prop := OwnRow 51 5 rowD lo hi w v xs
def markD (q : Int) : Dot5 := (q, q + 1, q + 1 + 1, q + 1 + 1 + 1, q + 1 + 1 + 1 + 1)
/-- q, q + 1, .. in dots -/
def marksD (q : Int) (n : Nat) : List Dot5 := (List.range n).map fun i : Nat => markD (q + 5 * (i : Int))
@[simp] theorem marksD_length (q : Int) (n : Nat) : (marksD q n).length = n := by simp [marksD]
theorem marksD_succ (q : Int) (n : Nat) : marksD q (n + 1) = marksD q n ++ [markD (q + 5 * (n : Int))] := by simp [marksD, List.range_succ]
theorem marksD_get (q : Int) (n i : Nat) (h : i < (marksD q n).length) : (marksD q n)[i] = markD (q + 5 * (i : Int)) := by simp [marksD]
def markedD (q : Int) (xs : List Dot5) (i : Nat) : List Dot5 := marksD q i ++ xs.drop i
theorem markedD_zero (q : Int) (xs : List Dot5) : markedD q xs 0 = xs := by simp [markedD, marksD]
theorem markedD_all (q : Int) (xs : List Dot5) : markedD q xs xs.length = marksD q xs.length := by simp [markedD]
theorem markedD_length (q : Int) (xs : List Dot5) (i : Nat) (h : i ≤ xs.length) : (markedD q xs i).length = xs.length := by simp [markedD]; omega
theorem setL5 {pre post : List Value} {a b c d e a' b' c' d' e' : Value} {p : Nat} (hp : pre.length = p) : (((((pre ++ (a :: b :: c :: d :: e :: post)).set p a').set (p + 1) b').set (p + 2) c').set (p + 3) d').set (p + 4) e' = pre ++ (a' :: b' :: c' :: d' :: e' :: post) := by
  subst hp
  simp [List.set_append_right]
theorem markedD_set (q : Int) (xs : List Dot5) (i : Nat) (h : i < xs.length) :
    ((((((markedD q xs i).flatMap rowD).set (i * 5) (.int .i64 (q + 5 * (i : Int)))).set (i * 5 + 1) (.int .i64 (q + 5 * (i : Int) + 1))).set (i * 5 + 2) (.int .i64 (q + 5 * (i : Int) + 1 + 1))).set (i * 5 + 3) (.int .i64 (q + 5 * (i : Int) + 1 + 1 + 1))).set (i * 5 + 4) (.int .i64 (q + 5 * (i : Int) + 1 + 1 + 1 + 1)) = (markedD q xs (i + 1)).flatMap rowD := by
  have e1 : xs.drop i = xs[i] :: xs.drop (i + 1) := by simp
  unfold markedD
  rw [marksD_succ, e1]
  rw [List.flatMap_append, List.flatMap_append, List.flatMap_append, List.flatMap_cons]
  have e2 : rowD xs[i] ++ (xs.drop (i + 1)).flatMap rowD = .int .i64 xs[i].1 :: .int .i64 xs[i].2.1 :: .int .i64 xs[i].2.2.1 :: .int .i64 xs[i].2.2.2.1 :: .int .i64 xs[i].2.2.2.2 :: (xs.drop (i + 1)).flatMap rowD := rfl
  rw [e2, setL5 (by rw [flat_len rowD_len, marksD_length])]
  simp [rowD, markD]
theorem upd_al {lo hi : Nat} {w w' : World} {o : Obj} (hh : hi ≤ w.heap.size) (hu : Upd lo hi (w.alloc o) w') : Upd lo hi w w' := (Upd.of_below ((Below.refl w.heap.size w).al o)).trans hu
set_option maxHeartbeats 2000000 in
set_option maxRecDepth 100000 in
theorem c_laws_markDotS (lo hi : Nat) (xs : List Dot5) (q : Int) (v : Value) (w : World) (h : OwnD lo hi w v xs) (hq : 0 ≤ q) (hq2 : q + 5 * xs.length < 4611686018427387904) :
    Calls Try.prog 74 #[v, .int .i64 q] w fun e w' => e = .returned (.int .i64 (q + 5 * xs.length)) ∧ OwnD lo hi w' v (marksD q xs.length) ∧ Upd lo hi w w' := by
  have h0 := h
  rcases h0.1.2 with ⟨hv, hn⟩ | ⟨g, cap, cur, hv, hlo, hh, hnc, hcm, _⟩
  · subst hv
    have hx : xs = [] := List.eq_nil_of_length_eq_zero hn
    subst hx
    go_enter Try.func74, Try.ntmps74
    go_wp2
    refine wp_loop_rounds 1 ?_
    rw [rounds_succ]
    go_wp2
    go_ret
    exact ⟨by simp, h, Upd.of_below (Below.refl _ _)⟩
  · subst hv
    have hghi : g < hi := h.2 g rfl
    have hlm : (xs.length : Int) ≤ 9223372036854775807 := by unfold maxLen at hcm; omega
    clear hh h0
    go_enter Try.func74, Try.ntmps74
    go_wp2
    go_loopw [1, 5] (fun c i wr => ∃ k : Nat, k ≤ xs.length ∧ i = .int .i64 k ∧ c = .int .i64 (q + 5 * k) ∧ wr.ownsRow lo 51 5 (.slice (some ⟨g, 0, none⟩) xs.length cap) xs.length ((markedD q xs k).flatMap rowD) ∧ Upd lo hi w wr) (fun _ i _ => xs.length - (intOf i).toNat)
    case atStart => exact ⟨0, by omega, rfl, by simp, by rw [markedD_zero]; exact h.1, Upd.of_below (Below.refl _ _)⟩
    case round =>
      obtain ⟨k, hk, rfl, rfl, hown, hu⟩ := hrel
      by_cases hlt : k < xs.length
      · have hml := markedD_length q xs k hk
        have hA : OwnD lo hi wr (.slice (some ⟨g, 0, none⟩) xs.length cap) (markedD q xs k) := ⟨by rw [hml]; exact hown, h.2⟩
        obtain ⟨⟨old0, k0⟩, f0⟩ := OwnRow.at rowD_len hA k 0 (by rw [hml]; exact hlt) (by decide)
        obtain ⟨⟨old1, k1⟩, f1⟩ := OwnRow.at rowD_len hA k 1 (by rw [hml]; exact hlt) (by decide)
        obtain ⟨⟨old2, k2⟩, f2⟩ := OwnRow.at rowD_len hA k 2 (by rw [hml]; exact hlt) (by decide)
        obtain ⟨⟨old3, k3⟩, f3⟩ := OwnRow.at rowD_len hA k 3 (by rw [hml]; exact hlt) (by decide)
        obtain ⟨⟨old4, k4⟩, f4⟩ := OwnRow.at rowD_len hA k 4 (by rw [hml]; exact hlt) (by decide)
        rw [Nat.add_zero] at k0 f0
        have s1 := World.ownsRow.stored hown (k * 5) (.int .i64 (q + 5 * (k : Int)))
        have s2 := World.ownsRow.stored s1.1 (k * 5 + 1) (.int .i64 (q + 5 * (k : Int) + 1))
        have s3 := World.ownsRow.stored s2.1 (k * 5 + 2) (.int .i64 (q + 5 * (k : Int) + 1 + 1))
        have s4 := World.ownsRow.stored s3.1 (k * 5 + 3) (.int .i64 (q + 5 * (k : Int) + 1 + 1 + 1))
        have s5 := World.ownsRow.stored s4.1 (k * 5 + 4) (.int .i64 (q + 5 * (k : Int) + 1 + 1 + 1 + 1))
        have s6 := s5.1
        rw [markedD_set q xs k hlt] at s6
        have HS := Lib.hid s6
        have HU : Upd lo hi wr _ := Upd.of_grown (grownBy_trans (grownBy_trans (grownBy_trans (grownBy_trans s1.2 s2.2) s3.2) s4.2) s5.2) (fun b hb => by cases hb; exact ⟨hlo, hghi⟩)
        clear s1 s2 s3 s4 s5 s6 hA hml hown
        go_wp2
        go_roundw
        case rel => exact ⟨k + 1, by omega, by go_num, by (congr 1; omega), HS.out, hu.trans HU⟩
        case measure => simp [intOf]; omega
      · obtain rfl : k = xs.length := by omega
        go_wp2
        go_ret
        exact ⟨rfl, ⟨by rw [marksD_length, ← markedD_all]; exact hown, h.2⟩, hu⟩
set_option maxHeartbeats 2000000 in
set_option maxRecDepth 100000 in
theorem c_laws_heldDotS (n : Nat) (q : Int) (v : Value) (w : World) (h : RdRow 5 rowD w v (marksD q n)) (hq : 0 ≤ q) (hq2 : q + 5 * n < 4611686018427387904) :
    Calls Try.prog 75 #[v, .int .i64 q] w fun e w' => e = .returned (.int .i64 (q + 5 * n)) ∧ w = w' := by
  have h' := h
  obtain ⟨a1, cap1, rfl, hl1, _⟩ := h'
  simp only [marksD_length] at hl1 h ⊢
  go_enter Try.func75, Try.ntmps75
  go_wp2
  go_loop [1, 5] (fun c i => ∃ k : Nat, k ≤ n ∧ i = .int .i64 k ∧ c = .int .i64 (q + 5 * k)) (fun _ i => n - (intOf i).toNat)
  case atStart => exact ⟨0, by omega, rfl, by simp⟩
  case round =>
    obtain ⟨k, hk, rfl, rfl⟩ := hrel
    by_cases hlt : k < n
    · obtain ⟨b1, o1, rfl, x0, x1, x2, x3, x4⟩ := rdD_at h k (by rw [marksD_length]; exact hlt)
      rw [marksD_get] at x0 x1 x2 x3 x4
      unfold markD at x0 x1 x2 x3 x4
      have t0 : ((q + 5 * (k : Int)) != (q + 5 * (k : Int))) = false := by simp
      have t1 : ((q + 5 * (k : Int) + 1) != (q + 5 * (k : Int) + 1)) = false := by simp
      have t2 : ((q + 5 * (k : Int) + 1 + 1) != (q + 5 * (k : Int) + 1 + 1)) = false := by simp
      have t3 : ((q + 5 * (k : Int) + 1 + 1 + 1) != (q + 5 * (k : Int) + 1 + 1 + 1)) = false := by simp
      have t4 : ((q + 5 * (k : Int) + 1 + 1 + 1 + 1) != (q + 5 * (k : Int) + 1 + 1 + 1 + 1)) = false := by simp
      clear h
      go_wp2
      go_round
      case rel => exact ⟨k + 1, by omega, by go_num, by (congr 1; omega)⟩
      case measure => simp [intOf]; omega
    · obtain rfl : k = n := by omega
      go_wp2
      go_ret
      exact ⟨rfl, rfl⟩
set_option maxHeartbeats 2000000 in
set_option maxRecDepth 100000 in
theorem c_laws_markFrame (lo hi : Nat) (t : Int) (xs : List Dot5) (q : Int) (v : Value) (w : World) (h : OwnD lo hi w v xs) (hh : hi ≤ w.heap.size) (hq : 0 ≤ q) (hq2 : q + 5 * xs.length < 4611686018427387904) :
    Calls Try.prog 37 #[.agg #[.int .i64 t, v], .int .i64 q] w fun e w' => e = .returned (.int .i64 (q + 5 * xs.length)) ∧ OwnD lo hi w' v (marksD q xs.length) ∧ Upd lo hi w w' := by
  have hvs : ∃ a n cap, v = .slice a n cap := by
    rcases h.1.2 with ⟨hv, _⟩ | ⟨g, cap, cur, hv, _⟩ <;> exact ⟨_, _, _, hv⟩
  obtain ⟨a, n, cap, rfl⟩ := hvs
  have HH := h.al (.cells #[.int .i64 t, .slice a n cap] 62)
  go_enter Try.func37, Try.ntmps37
  go_wp2_with fail
  refine (c_laws_markDotS lo hi xs q _ _ HH hq hq2).mono ?_; rintro e w2 ⟨rfl, ho, hu⟩
  go_wp2
  go_ret
  exact ⟨rfl, ho, upd_al hh hu⟩
set_option maxHeartbeats 2000000 in
set_option maxRecDepth 100000 in
theorem c_laws_heldFrame (t : Int) (n : Nat) (q : Int) (v : Value) (w : World) (h : RdRow 5 rowD w v (marksD q n)) (hq : 0 ≤ q) (hq2 : q + 5 * n < 4611686018427387904) :
    Calls Try.prog 38 #[.agg #[.int .i64 t, v], .int .i64 q] w fun e w' => e = .returned (.int .i64 (q + 5 * n)) ∧ Below w.heap.size w w' := by
  have h' := h
  obtain ⟨a1, cap1, rfl, hl1, _⟩ := h'
  rw [marksD_length] at h ⊢
  have hr := h.below ((Below.refl _ _).al (.cells #[.int .i64 t, .slice a1 n cap1] 62))
  have HC : Hid (∀ w7, RdRow 5 rowD w7 (.slice a1 n cap1) (marksD q n) → Calls Try.prog 75 #[.slice a1 n cap1, .int .i64 q] w7 fun e w' => e = .returned (.int .i64 (q + 5 * n)) ∧ w7 = w') := fun w7 h7 => c_laws_heldDotS n q _ w7 h7 hq hq2
  have HR := Lib.hid hr
  clear h hr hl1
  obtain ⟨Z, HZ⟩ : ∃ Z, Hid (q + 5 * (n : Int) = Z) := ⟨_, Lib.hid rfl⟩
  have hZ : 0 ≤ Z ∧ Z < 4611686018427387904 := by rw [← HZ.out]; omega
  rw [HZ.out] at HC ⊢
  clear hq2
  have hng : ¬ (Z < 0) := by omega
  go_enter Try.func38, Try.ntmps38
  go_wp2_with fail
  refine (HC.out _ HR.out).mono ?_; rintro e w2 ⟨rfl, rfl⟩
  go_wp2
  go_ret
  exact ⟨rfl, by (repeat (first | (with_reducible assumption) | (with_reducible exact Below.refl _ _) | (with_reducible refine Below.setCell ?_ (by first | (simp; done) | (simp; omega)) _) | (with_reducible refine Below.al ?_ _) | (with_reducible refine Below.dr ?_) | (with_reducible refine Below.drN ?_ _) | (with_reducible refine Below.tr ?_ (by with_reducible assumption))))⟩
end Go.Proofs.Ytddfdppoclnpcaa
