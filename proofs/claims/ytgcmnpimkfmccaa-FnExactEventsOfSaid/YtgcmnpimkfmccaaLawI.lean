/- Contracts of the laws' helpers on slices of int64: eq, mark, held. -/
import Derived.Test.YtgcmnpimkfmccaaStates
namespace Go.Proofs.Ytgcmnpimkfmccaa
open Go.ChangeShapes Go.WideShapes Go.ChangeAt Go.RowKit
set_option linter.unusedVariables false
theorem eq_take_succ {xs ys : List Int} {k : Nat} (h : k < xs.length) (h2 : k < ys.length) (he : xs.take k = ys.take k) (hx : xs.getD k 0 = ys.getD k 0) : xs.take (k + 1) = ys.take (k + 1) := by
  rw [List.take_add_one, List.take_add_one, he, List.getElem?_eq_getElem h, List.getElem?_eq_getElem h2]
  have hx' : xs[k] = ys[k] := by simpa [List.getElem?_eq_getElem h, List.getElem?_eq_getElem h2, List.getD] using hx
  rw [hx']
theorem ne_of_at {xs ys : List Int} (k : Nat) (hne : xs.getD k 0 ≠ ys.getD k 0) : xs ≠ ys := by
  intro e; subst e; exact hne rfl
set_option maxHeartbeats 1000000 in
theorem c_laws_eqInt64S (xs ys : List Int) (v1 v2 : Value) (w : World) (h1 : RdI w v1 xs) (h2 : RdI w v2 ys) :
    Calls Try.prog 23 #[v1, v2] w fun e w' => e = .returned (.bool (decide (xs = ys))) ∧ Below w.heap.size w w' := by
  obtain ⟨a1, cap1, rfl, hl1, hc1⟩ := h1
  obtain ⟨a2, cap2, rfl, hl2, hc2⟩ := h2
  by_cases hlen : xs.length = ys.length
  · have hb0 : ((xs.length : Int) != (ys.length : Int)) = false := by simp [hlen]
    have Hlen : Hid (xs.length = ys.length) := hlen
    clear hlen
    go_enter Try.func23, Try.ntmps23
    go_wp2
    go_loopw [5] (fun i wr => ∃ k : Nat, k ≤ xs.length ∧ i = .int .i64 k ∧ Hid (xs.take k = ys.take k) ∧ Below w.heap.size w wr) (fun i _ => xs.length - (intOf i).toNat)
    case atStart => exact ⟨0, by omega, rfl, rfl, Below.refl _ _⟩
    case round =>
      obtain ⟨k, hk, rfl, heq, hb⟩ := hrel
      by_cases hlt : k < xs.length
      · obtain ⟨b1, o1, rfl, hx⟩ := hc1 k hlt
        obtain ⟨b2, o2, rfl, hy⟩ := hc2 k (by have := Hlen.out; omega)
        have hx' : wr.cell? ⟨b1, o1 + k, none⟩ = some (.int .i64 (xs.getD k 0)) := by rw [hb.cell (p := ⟨b1, o1 + k, none⟩) (World.block_lt_of_cell? w _ hx)]; exact hx
        have hy' : wr.cell? ⟨b2, o2 + k, none⟩ = some (.int .i64 (ys.getD k 0)) := by rw [hb.cell (p := ⟨b2, o2 + k, none⟩) (World.block_lt_of_cell? w _ hy)]; exact hy
        clear hx hy hc1 hc2
        have hlt2 : k < ys.length := by have := Hlen.out; omega
        obtain ⟨x, Hx⟩ : ∃ x, Hid (xs.getD k 0 = x) := ⟨_, rfl⟩
        obtain ⟨y, Hy⟩ : ∃ y, Hid (ys.getD k 0 = y) := ⟨_, rfl⟩
        rw [Hx.out] at hx'
        rw [Hy.out] at hy'
        by_cases hxy : x = y
        · have ht : (x != y) = false := by simp [hxy]
          have Hxy : Hid (x = y) := hxy
          clear hxy
          go_wp2
          go_quiet (fail)
          go_wp2
          go_roundw
          case rel => exact ⟨k + 1, by omega, by go_num, eq_take_succ hlt hlt2 heq.out (by rw [Hx.out, Hy.out]; exact Hxy.out), by (repeat (first | (with_reducible assumption) | (with_reducible exact Below.refl _ _) | (with_reducible refine Below.setCell ?_ (by first | (simp; done) | (simp; omega)) _) | (with_reducible refine Below.al ?_ _) | (with_reducible refine Below.dr ?_) | (with_reducible refine Below.drN ?_ _) | (with_reducible refine Below.tr ?_ (by with_reducible assumption))))⟩
          case measure => simp [intOf]; omega
        · have ht : (x != y) = true := by simp [hxy]
          have hne := ne_of_at (xs := xs) (ys := ys) k (by rw [Hx.out, Hy.out]; exact hxy)
          go_wp2
          go_quiet (fail)
          go_wp2
          go_ret
          exact ⟨by simp [hne], by (repeat (first | (with_reducible assumption) | (with_reducible exact Below.refl _ _) | (with_reducible refine Below.setCell ?_ (by first | (simp; done) | (simp; omega)) _) | (with_reducible refine Below.al ?_ _) | (with_reducible refine Below.dr ?_) | (with_reducible refine Below.drN ?_ _) | (with_reducible refine Below.tr ?_ (by with_reducible assumption))))⟩
      · have he : Hid (xs = ys) := by
          have h := heq.out
          rw [List.take_of_length_le (by omega), List.take_of_length_le (by have := Hlen.out; omega)] at h
          exact h
        go_wp2
        go_ret
        exact ⟨by simp [he.out], by (repeat (first | (with_reducible assumption) | (with_reducible exact Below.refl _ _) | (with_reducible refine Below.setCell ?_ (by first | (simp; done) | (simp; omega)) _) | (with_reducible refine Below.al ?_ _) | (with_reducible refine Below.dr ?_) | (with_reducible refine Below.drN ?_ _) | (with_reducible refine Below.tr ?_ (by with_reducible assumption))))⟩
  · have hb0 : ((xs.length : Int) != (ys.length : Int)) = true := by simp; omega
    have hne : xs ≠ ys := fun e => hlen (by rw [e])
    go_enter Try.func23, Try.ntmps23
    go_wp2
    go_ret
    exact ⟨by simp [hne], by (repeat (first | (with_reducible assumption) | (with_reducible exact Below.refl _ _) | (with_reducible refine Below.setCell ?_ (by first | (simp; done) | (simp; omega)) _) | (with_reducible refine Below.al ?_ _) | (with_reducible refine Below.dr ?_) | (with_reducible refine Below.drN ?_ _) | (with_reducible refine Below.tr ?_ (by with_reducible assumption))))⟩
set_option maxHeartbeats 1000000 in
theorem c_laws_markInt64S (B : Nat) (xs : List Int) (q : Int) (v : Value) (w : World) (h : OwnI1 B w v xs) (hq : 0 ≤ q) (hq2 : q + xs.length < 4611686018427387904) :
    Calls Try.prog 24 #[v, .int .i64 q] w fun e w' => e = .returned (.int .i64 (q + xs.length)) ∧ OwnI1 B w' v (marks q xs.length) ∧ w.grownBy w' v.ownBlock := by
  rcases h.shape with ⟨rfl, rfl⟩ | ⟨g, cap, rfl, hBg, hgs, hlc, hcm, hcell, hfz⟩
  · go_enter Try.func24, Try.ntmps24
    go_wp2
    refine wp_loop_rounds 1 ?_
    rw [rounds_succ]
    go_wp2
    go_ret
    exact ⟨by simp, h, grownBy_refl _ _⟩
  · go_enter Try.func24, Try.ntmps24
    go_wp2
    go_loopw [1, 5] (fun c i wr => ∃ k : Nat, k ≤ xs.length ∧ i = .int .i64 k ∧ c = .int .i64 (q + k) ∧ OwnI1 B wr (.slice (some ⟨g, 0, none⟩) xs.length cap) (marked q xs k) ∧ w.grownBy wr (some g)) (fun _ i _ => xs.length - (intOf i).toNat)
    case atStart => exact ⟨0, by omega, rfl, by simp, by rw [marked_zero]; exact h, grownBy_refl _ _⟩
    case round =>
      obtain ⟨k, hk, rfl, rfl, hown, hg⟩ := hrel
      by_cases hlt : k < xs.length
      · have hml := marked_length q xs k (by omega)
        have hown' : OwnI1 B wr (.slice (some ⟨g, 0, none⟩) (marked q xs k).length cap) (marked q xs k) := by rw [hml]; exact hown
        have hst := hown'.store k (q + k)
        rw [marked_succ q xs k hlt, hml] at hst
        rcases hown'.shape with ⟨h0, _⟩ | ⟨g', cap', he, _, _, _, _, hcr, hfr⟩
        · cases h0
        · cases he
          have hck := hcr k (by omega)
          have hfk := hfr k
          clear hcr hfr hcell hfz
          have HML := Lib.hid hml
          clear hml
          go_wp2
          go_roundw
          case rel => exact ⟨k + 1, by omega, by go_num, by go_num, hst.1, grownBy_trans hg hst.2⟩
          case measure => simp [intOf]; omega
      · obtain rfl : k = xs.length := by omega
        go_wp2
        go_ret
        exact ⟨rfl, by rw [← marked_all]; exact hown, hg⟩
theorem m_Int64S (lo hi : Nat) (xs : List Int) (q : Int) (v : Value) (w : World) (h : OwnIR 2 lo hi w v xs) (hq : 0 ≤ q) (hq2 : q + xs.length < 4611686018427387904) :
    Calls Try.prog 24 #[v, .int .i64 q] w fun e w' => e = .returned (.int .i64 (q + xs.length)) ∧ OwnIR 2 lo hi w' v (marks q xs.length) ∧ Upd lo hi w w' := by
  refine (c_laws_markInt64S lo xs q v w h.1 hq hq2).mono ?_
  rintro e w' ⟨rfl, ho, hg⟩
  exact ⟨rfl, ⟨ho, h.2⟩, h.upd_of hg⟩
end Go.Proofs.Ytgcmnpimkfmccaa
