/- Contracts of the laws' helpers on slices of arcs: eq, mark, held. -/
import Derived.Test.YtggffkklfdpmkaaArcs
namespace Go.Proofs.Ytggffkklfdpmkaa
open Go.ChangeShapes Go.WideShapes Go.ChangeAt Go.RowKit
set_option linter.unusedVariables false
theorem c_laws_eqArc (f t o : Int) (w : World) :
    Calls Try.prog 77 #[.agg #[.int .i64 f, .int .i64 t, .int .i64 o], .agg #[.int .i64 f, .int .i64 t, .int .i64 o]] w fun e w' => e = .returned (.bool true) ∧ Below w.heap.size w w' := by
  have t1 : (f != f) = false := by simp
  have t2 : (t != t) = false := by simp
  have t3 : (o != o) = false := by simp
  go_enter Try.func77, Try.ntmps77
  go_wp2
  go_ret
  exact ⟨rfl, by (repeat (first | (with_reducible assumption) | (with_reducible exact Below.refl _ _) | (with_reducible refine Below.setCell ?_ (by first | (simp; done) | (simp; omega)) _) | (with_reducible refine Below.al ?_ _) | (with_reducible refine Below.dr ?_) | (with_reducible refine Below.drN ?_ _) | (with_reducible refine Below.tr ?_ (by with_reducible assumption))))⟩
theorem rdA_at {w : World} {a : Option Addr} {n cap : Nat} {xs : List (Int × Int × Int)} (h : RdRow 3 rowA w (.slice a n cap) xs) (k : Nat) (hk : k < xs.length) : ∃ b off, a = some ⟨b, off, none⟩ ∧
    w.cell? ⟨b, off + k * 3, none⟩ = some (.int .i64 xs[k].1) ∧ w.cell? ⟨b, off + k * 3 + 1, none⟩ = some (.int .i64 xs[k].2.1) ∧ w.cell? ⟨b, off + k * 3 + 2, none⟩ = some (.int .i64 xs[k].2.2) := by
  obtain ⟨a', cap', he, _, hc⟩ := h
  cases he
  obtain ⟨b, off, ha, hx⟩ := hc k hk
  refine ⟨b, off, ha, ?_, hx 1 _ rfl, hx 2 _ rfl⟩
  have h0 := hx 0 _ rfl
  rw [Nat.add_zero] at h0; exact h0
set_option maxHeartbeats 1000000 in
set_option maxRecDepth 100000 in
theorem c_laws_eqArcS (xs : List (Int × Int × Int)) (v1 v2 : Value) (w : World) (h1 : RdRow 3 rowA w v1 xs) (h2 : RdRow 3 rowA w v2 xs) :
    Calls Try.prog 32 #[v1, v2] w fun e w' => e = .returned (.bool true) ∧ Below w.heap.size w w' := by
  have h1' := h1
  have h2' := h2
  obtain ⟨a1, cap1, rfl, hl1, _⟩ := h1'
  obtain ⟨a2, cap2, rfl, _, _⟩ := h2'
  have hb0 : ((xs.length : Int) != (xs.length : Int)) = false := by simp
  go_enter Try.func32, Try.ntmps32
  go_wp2
  go_loopw [5] (fun i wr => ∃ k : Nat, k ≤ xs.length ∧ i = .int .i64 k ∧ Below w.heap.size w wr) (fun i _ => xs.length - (intOf i).toNat)
  case atStart => exact ⟨0, by omega, rfl, Below.refl _ _⟩
  case round =>
    obtain ⟨k, hk, rfl, hb⟩ := hrel
    obtain ⟨wo, rfl⟩ : ∃ wo : World, wo = wr := ⟨_, rfl⟩
    by_cases hlt : k < xs.length
    · obtain ⟨b1, o1, rfl, x0, x1, x2⟩ := rdA_at (h1.below hb) k hlt
      obtain ⟨b2, o2, rfl, y0, y1, y2⟩ := rdA_at (h2.below hb) k hlt
      generalize xs[k].1 = f at x0 y0
      generalize xs[k].2.1 = t at x1 y1
      generalize xs[k].2.2 = o at x2 y2
      have hin0 : (0 : Int) ≤ (k : Int) := Int.natCast_nonneg _
      have hin1 : (k : Int) < (xs.length : Int) := by omega
      have hs1 : b1 < wo.heap.size := World.block_lt_of_cell? wo _ x0
      have hs2 : b2 < wo.heap.size := World.block_lt_of_cell? wo _ y0
      clear h1 h2
      go_wp2_with fail
      go_region_held3 (fun w' => w'.cell? ⟨b1, o1 + k * 3, none⟩ = some (.int .i64 f) ∧ w'.cell? ⟨b1, o1 + k * 3 + 1, none⟩ = some (.int .i64 t) ∧ w'.cell? ⟨b1, o1 + k * 3 + 2, none⟩ = some (.int .i64 o) ∧ w'.cell? ⟨b2, o2 + k * 3, none⟩ = some (.int .i64 f) ∧ w'.cell? ⟨b2, o2 + k * 3 + 1, none⟩ = some (.int .i64 t) ∧ w'.cell? ⟨b2, o2 + k * 3 + 2, none⟩ = some (.int .i64 o))
        (go_keep)
        ((go_at_call 77; refine (c_laws_eqArc f t o _).mono ?_; rintro e w4 ⟨rfl, hb4⟩; have hb4' := below_drew hb4; obtain ⟨hc4, _⟩ := bcell hb4'))
      go_wp2
      go_roundw
      case rel => exact ⟨k + 1, by omega, by go_num, hb.tr hb4'⟩
      case measure => simp [intOf]; omega
    · go_wp2
      go_ret
      exact ⟨rfl, hb⟩
/-- q, q + 1, .. in arcs -/
def marksA (q : Int) (n : Nat) : List (Int × Int × Int) := (List.range n).map fun i : Nat => (q + 3 * (i : Int), q + 3 * (i : Int) + 1, q + 3 * (i : Int) + 1 + 1)
@[simp] theorem marksA_length (q : Int) (n : Nat) : (marksA q n).length = n := by simp [marksA]
theorem marksA_succ (q : Int) (n : Nat) : marksA q (n + 1) = marksA q n ++ [(q + 3 * (n : Int), q + 3 * (n : Int) + 1, q + 3 * (n : Int) + 1 + 1)] := by simp [marksA, List.range_succ]
theorem marksA_get (q : Int) (n i : Nat) (h : i < (marksA q n).length) : (marksA q n)[i] = (q + 3 * (i : Int), q + 3 * (i : Int) + 1, q + 3 * (i : Int) + 1 + 1) := by simp [marksA]
def markedA (q : Int) (xs : List (Int × Int × Int)) (i : Nat) : List (Int × Int × Int) := marksA q i ++ xs.drop i
theorem markedA_zero (q : Int) (xs : List (Int × Int × Int)) : markedA q xs 0 = xs := by simp [markedA, marksA]
theorem markedA_all (q : Int) (xs : List (Int × Int × Int)) : markedA q xs xs.length = marksA q xs.length := by simp [markedA]
theorem markedA_length (q : Int) (xs : List (Int × Int × Int)) (i : Nat) (h : i ≤ xs.length) : (markedA q xs i).length = xs.length := by simp [markedA]; omega
theorem set3 {pre post : List Value} {a b c a' b' c' : Value} {p : Nat} (hp : pre.length = p) : (((pre ++ (a :: b :: c :: post)).set p a').set (p + 1) b').set (p + 2) c' = pre ++ (a' :: b' :: c' :: post) := by
  subst hp
  simp [List.set_append_right]
theorem markedA_set (q : Int) (xs : List (Int × Int × Int)) (i : Nat) (h : i < xs.length) :
    (((((markedA q xs i).flatMap rowA).set (i * 3) (.int .i64 (q + 3 * (i : Int)))).set (i * 3 + 1) (.int .i64 (q + 3 * (i : Int) + 1))).set (i * 3 + 2) (.int .i64 (q + 3 * (i : Int) + 1 + 1))) = (markedA q xs (i + 1)).flatMap rowA := by
  have e1 : xs.drop i = xs[i] :: xs.drop (i + 1) := by simp
  unfold markedA
  rw [marksA_succ, e1]
  rw [List.flatMap_append, List.flatMap_append, List.flatMap_append, List.flatMap_cons]
  have e2 : rowA xs[i] ++ (xs.drop (i + 1)).flatMap rowA = .int .i64 xs[i].1 :: .int .i64 xs[i].2.1 :: .int .i64 xs[i].2.2 :: (xs.drop (i + 1)).flatMap rowA := rfl
  rw [e2, set3 (by rw [flat_len rowA_len, marksA_length])]
  simp [rowA]
set_option maxHeartbeats 2000000 in
set_option maxRecDepth 100000 in
theorem c_laws_markArcS (lo hi : Nat) (xs : List (Int × Int × Int)) (q : Int) (v : Value) (w : World) (h : OwnA lo hi w v xs) (hq : 0 ≤ q) (hq2 : q + 3 * xs.length < 4611686018427387904) :
    Calls Try.prog 33 #[v, .int .i64 q] w fun e w' => e = .returned (.int .i64 (q + 3 * xs.length)) ∧ OwnA lo hi w' v (marksA q xs.length) ∧ Upd lo hi w w' := by
  have h0 := h
  rcases h0.1.2 with ⟨hv, hn⟩ | ⟨g, cap, cur, hv, hlo, hh, hnc, hcm, _⟩
  · subst hv
    have hx : xs = [] := List.eq_nil_of_length_eq_zero hn
    subst hx
    go_enter Try.func33, Try.ntmps33
    go_wp2
    refine wp_loop_rounds 1 ?_
    rw [rounds_succ]
    go_wp2
    go_ret
    exact ⟨by simp, h, Upd.of_below (Below.refl _ _)⟩
  · subst hv
    have hghi : g < hi := h.2 g rfl
    have hlm : (xs.length : Int) ≤ 9223372036854775807 := by unfold maxLen at hcm; omega
    clear hh h0
    go_enter Try.func33, Try.ntmps33
    go_wp2
    go_loopw [1, 5] (fun c i wr => ∃ k : Nat, k ≤ xs.length ∧ i = .int .i64 k ∧ c = .int .i64 (q + 3 * k) ∧ wr.ownsRow lo 41 3 (.slice (some ⟨g, 0, none⟩) xs.length cap) xs.length ((markedA q xs k).flatMap rowA) ∧ Upd lo hi w wr) (fun _ i _ => xs.length - (intOf i).toNat)
    case atStart => exact ⟨0, by omega, rfl, by simp, by rw [markedA_zero]; exact h.1, Upd.of_below (Below.refl _ _)⟩
    case round =>
      obtain ⟨k, hk, rfl, rfl, hown, hu⟩ := hrel
      by_cases hlt : k < xs.length
      · have hml := markedA_length q xs k hk
        have hA : OwnA lo hi wr (.slice (some ⟨g, 0, none⟩) xs.length cap) (markedA q xs k) := ⟨by rw [hml]; exact hown, h.2⟩
        obtain ⟨⟨old0, k0⟩, f0⟩ := OwnRow.at rowA_len hA k 0 (by rw [hml]; exact hlt) (by decide)
        obtain ⟨⟨old1, k1⟩, f1⟩ := OwnRow.at rowA_len hA k 1 (by rw [hml]; exact hlt) (by decide)
        obtain ⟨⟨old2, k2⟩, f2⟩ := OwnRow.at rowA_len hA k 2 (by rw [hml]; exact hlt) (by decide)
        rw [Nat.add_zero] at k0 f0
        have s1 := World.ownsRow.stored hown (k * 3) (.int .i64 (q + 3 * (k : Int)))
        have s2 := World.ownsRow.stored s1.1 (k * 3 + 1) (.int .i64 (q + 3 * (k : Int) + 1))
        have s3 := World.ownsRow.stored s2.1 (k * 3 + 2) (.int .i64 (q + 3 * (k : Int) + 1 + 1))
        have s4 := s3.1
        rw [markedA_set q xs k hlt] at s4
        have HS := Lib.hid s4
        have HU : Upd lo hi wr _ := Upd.of_grown (grownBy_trans (grownBy_trans s1.2 s2.2) s3.2) (fun b hb => by cases hb; exact ⟨hlo, hghi⟩)
        clear s1 s2 s3 s4 hA hml hown
        go_wp2
        go_roundw
        case rel => exact ⟨k + 1, by omega, by go_num, by (congr 1; omega), HS.out, hu.trans HU⟩
        case measure => simp [intOf]; omega
      · obtain rfl : k = xs.length := by omega
        go_wp2
        go_ret
        exact ⟨rfl, ⟨by rw [marksA_length, ← markedA_all]; exact hown, h.2⟩, hu⟩
set_option maxHeartbeats 2000000 in
set_option maxRecDepth 100000 in
theorem c_laws_heldArcS (n : Nat) (q : Int) (v : Value) (w : World) (h : RdRow 3 rowA w v (marksA q n)) (hq : 0 ≤ q) (hq2 : q + 3 * n < 4611686018427387904) :
    Calls Try.prog 34 #[v, .int .i64 q] w fun e w' => e = .returned (.int .i64 (q + 3 * n)) ∧ w = w' := by
  have h' := h
  obtain ⟨a1, cap1, rfl, hl1, _⟩ := h'
  simp only [marksA_length] at hl1 h ⊢
  go_enter Try.func34, Try.ntmps34
  go_wp2
  go_loop [1, 5] (fun c i => ∃ k : Nat, k ≤ n ∧ i = .int .i64 k ∧ c = .int .i64 (q + 3 * k)) (fun _ i => n - (intOf i).toNat)
  case atStart => exact ⟨0, by omega, rfl, by simp⟩
  case round =>
    obtain ⟨k, hk, rfl, rfl⟩ := hrel
    by_cases hlt : k < n
    · obtain ⟨b1, o1, rfl, x0, x1, x2⟩ := rdA_at h k (by rw [marksA_length]; exact hlt)
      rw [marksA_get] at x0 x1 x2
      have t0 : ((q + 3 * (k : Int)) != (q + 3 * (k : Int))) = false := by simp
      have t1 : ((q + 3 * (k : Int) + 1) != (q + 3 * (k : Int) + 1)) = false := by simp
      have t2 : ((q + 3 * (k : Int) + 1 + 1) != (q + 3 * (k : Int) + 1 + 1)) = false := by simp
      clear h
      go_wp2
      go_round
      case rel => exact ⟨k + 1, by omega, by go_num, by (congr 1; omega)⟩
      case measure => simp [intOf]; omega
    · obtain rfl : k = n := by omega
      go_wp2
      go_ret
      exact ⟨rfl, rfl⟩
end Go.Proofs.Ytggffkklfdpmkaa
