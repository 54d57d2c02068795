/- Frames2, Frames3: laid one behind the other. -/
import Derived.Test.YtpcaaohdlcoplaaCmpD
import Derived.Test.YtpcaaohdlcoplaaMemC
section
set_option linter.unusedVariables false
namespace Go.Proofs.Ytpcaaohdlcoplaa
open Go.ChangeShapes Go.WideShapes Go.ChangeAt Go.RowKit
set_option linter.unusedSimpArgs false
theorem infoDot : (Try.prog.info? 71).map (fun i => (i.zero, i.size, i.bytes)) = some (some (.agg #[.int .i64 0, .int .i64 0, .int .i64 0, .int .i64 0, .int .i64 0]), 5, 40) := by kernel_rfl
theorem rd_setFar {α : Type} {sz : Nat} {row : α → List Value} {w : World} {g o n c : Nat} {xs : List α} (h : RdRow sz row w (.slice (some ⟨g, o, none⟩) n c) xs) {p : Addr} (u : Value) (hp : p.block ≠ g) : RdRow sz row (w.setCell p u) (.slice (some ⟨g, o, none⟩) n c) xs := by
  obtain ⟨a, cap, he, hl, hc⟩ := h
  cases he
  refine ⟨_, _, rfl, hl, fun k hk => ?_⟩
  obtain ⟨b, off, ha, hx⟩ := hc k hk
  cases ha
  exact ⟨_, _, rfl, fun c u hu => (World.cell?_setCell_far _ _ _ _ hp).trans (hx c u hu)⟩
def sameFrameB (t : Int) (xs : List Dot5) (t' : Int) (ys : List Dot5) : Bool := decide (t = t' ∧ xs = ys)
theorem frame_step {xs ys : List Dot5} {k : Nat} (h1 : k < xs.length) (h2 : k < ys.length) (he : xs.take k = ys.take k) (hx : xs[k] = ys[k]) : xs.take (k + 1) = ys.take (k + 1) := by
  rw [List.take_add_one, List.take_add_one, he, List.getElem?_eq_getElem h1, List.getElem?_eq_getElem h2, hx]
end Go.Proofs.Ytpcaaohdlcoplaa
end
section
set_option linter.unusedVariables false
namespace Go.Proofs.Ytpcaaohdlcoplaa
open Go.ChangeShapes Go.WideShapes Go.ChangeAt Go.RowKit
set_option maxHeartbeats 2000000 in
set_option maxRecDepth 100000 in
theorem c_spec_l26Same (t t' : Int) (xs ys : List Dot5) (v1 v2 : Value) (g1 g2 : Nat) (w : World) (h1 : RdRow 5 rowD w v1 xs) (h2 : RdRow 5 rowD w v2 ys) (k0 : w.cell? ⟨g1, 0, none⟩ = some (.int .i64 t)) (k1 : w.cell? ⟨g1, 1, none⟩ = some v1) (k2 : w.cell? ⟨g2, 0, none⟩ = some (.int .i64 t')) (k3 : w.cell? ⟨g2, 1, none⟩ = some v2) :
    Calls Try.prog 91 #[.pointer (some ⟨g1, 0, none⟩), .pointer (some ⟨g2, 0, none⟩)] w fun e w' => e = .returned (.bool (sameFrameB t xs t' ys)) ∧ Below w.heap.size w w' := by
  have h1' := h1
  have h2' := h2
  obtain ⟨a1, cap1, rfl, hl1, _⟩ := h1'
  obtain ⟨a2, cap2, rfl, hl2, _⟩ := h2'
  by_cases ht : t = t'
  · by_cases hlen : xs.length = ys.length
    · have b0 : (t != t') = false := by simp [ht]
      have b1 : ((xs.length : Int) != (ys.length : Int)) = false := by simp [hlen]
      have HT := Lib.hid ht
      have HL := Lib.hid hlen
      clear ht hlen
      go_enter Try.func91, Try.ntmps91
      go_wp2
      go_quiet (fail)
      obtain ⟨nq0, rfl⟩ : ∃ n0, n0 = nq := ⟨_, rfl⟩
      have BQ : Below w.heap.size w (w.drewN nq0) := (Below.refl _ _).drN _
      go_wp2_with fail
      go_loopw [5] (fun i wr => ∃ k : Nat, k ≤ xs.length ∧ i = .int .i64 k ∧ Hid (xs.take k = ys.take k) ∧ Below w.heap.size w wr) (fun i _ => xs.length - (intOf i).toNat)
      case atStart => exact ⟨0, by omega, rfl, rfl, BQ⟩
      case round =>
        obtain ⟨k, hk, rfl, HE, hb⟩ := hrel
        have c1 := keepc hb k1
        have c2 := keepc hb k3
        clear k0 k1 k2 k3
        by_cases hlt : k < xs.length
        · have hlt2 : k < ys.length := by have := HL.out; omega
          obtain ⟨b1, o1, rfl, x0, x1, x2, x3, x4⟩ := rdD_at (h1.below hb) k hlt
          obtain ⟨b2, o2, rfl, y0, y1, y2, y3, y4⟩ := rdD_at (h2.below hb) k hlt2
          have hin0 : (0 : Int) ≤ (k : Int) := Int.natCast_nonneg _
          have hin1 : (k : Int) < (xs.length : Int) := by omega
          have hin2 : (k : Int) < (ys.length : Int) := by omega
          obtain ⟨⟨p, h, n, d, y⟩, HX⟩ : ∃ x, Hid (xs[k] = x) := ⟨xs[k], Lib.hid rfl⟩
          obtain ⟨⟨p', h', n', d', y'⟩, HY⟩ : ∃ x, Hid (ys[k] = x) := ⟨ys[k], Lib.hid rfl⟩
          rw [HX.out] at x0 x1 x2 x3 x4
          rw [HY.out] at y0 y1 y2 y3 y4
          dsimp only at x0 x1 x2 x3 x4 y0 y1 y2 y3 y4
          have q := fun w => neDot w p h n d y p' h' n' d' y'
          have g := gDot
          by_cases he : p = p' ∧ h = h' ∧ n = n' ∧ d = d' ∧ y = y'
          · have HE2 := Lib.hid (frame_step hlt hlt2 HE.out (by rw [HX.out, HY.out]; obtain ⟨rfl, rfl, rfl, rfl, rfl⟩ := he; rfl))
            rw [decide_eq_true he] at q
            clear h1 h2 he HX HY
            go_wp2_with fail
            go_quiet (fail)
            go_wp2_with fail
            go_roundw
            case rel => exact ⟨k + 1, by omega, by go_num, HE2.out, hb.drN _⟩
            case measure => simp [intOf]; omega
          · have hne : Hid (sameFrameB t xs t' ys = false) := by
              unfold Hid sameFrameB
              refine decide_eq_false (fun e => he ?_)
              have e2 := HX.out
              have e3 := HY.out
              simp only [e.2] at e2
              rw [e2] at e3
              simpa using e3
            rw [decide_eq_false he] at q
            clear h1 h2 he HX HY
            go_wp2_with fail
            go_quiet (fail)
            go_wp2_with fail
            go_ret
            exact ⟨by rw [hne.out]; rfl, hb.drN _⟩
        · obtain rfl : k = xs.length := by omega
          have hS : Hid (sameFrameB t xs t' ys = true) := by
            unfold Hid sameFrameB
            have e := HE.out
            rw [List.take_length, HL.out, List.take_length] at e
            exact decide_eq_true ⟨HT.out, e⟩
          go_wp2_with fail
          go_ret
          exact ⟨by rw [hS.out]; rfl, hb⟩
    · have b0 : (t != t') = false := by simp [ht]
      have b1 : ((xs.length : Int) != (ys.length : Int)) = true := by simp; omega
      have hne : sameFrameB t xs t' ys = false := by unfold sameFrameB; simp; intro _ e; exact hlen (by rw [e])
      have HN := Lib.hid hne
      clear ht hlen hne
      go_enter Try.func91, Try.ntmps91
      go_wp2
      go_quiet (fail)
      go_wp2
      go_ret
      exact ⟨by rw [HN.out]; rfl, by (repeat (first | (with_reducible assumption) | (with_reducible exact Below.refl _ _) | (with_reducible refine Below.setCell ?_ (by first | (simp; done) | (simp; omega)) _) | (with_reducible refine Below.al ?_ _) | (with_reducible refine Below.dr ?_) | (with_reducible refine Below.drN ?_ _) | (with_reducible refine Below.tr ?_ (by with_reducible assumption))))⟩
  · have b0 : (t != t') = true := by simp [ht]
    have hne : sameFrameB t xs t' ys = false := by unfold sameFrameB; simp [ht]
    have HN := Lib.hid hne
    clear ht hne
    go_enter Try.func91, Try.ntmps91
    go_wp2
    go_quiet (fail)
    go_wp2
    go_ret
    exact ⟨by rw [HN.out]; rfl, by (repeat (first | (with_reducible assumption) | (with_reducible exact Below.refl _ _) | (with_reducible refine Below.setCell ?_ (by first | (simp; done) | (simp; omega)) _) | (with_reducible refine Below.al ?_ _) | (with_reducible refine Below.dr ?_) | (with_reducible refine Below.drN ?_ _) | (with_reducible refine Below.tr ?_ (by with_reducible assumption))))⟩
theorem c_spec_SameFrame (t t' : Int) (xs ys : List Dot5) (v1 v2 : Value) (w : World) (h1 : RdRow 5 rowD w v1 xs) (h2 : RdRow 5 rowD w v2 ys) :
    Calls Try.prog 44 #[.agg #[.int .i64 t, v1], .agg #[.int .i64 t', v2]] w fun e w' => e = .returned (.bool (sameFrameB t xs t' ys)) ∧ Below w.heap.size w w' := by
  have h1' := h1
  have h2' := h2
  obtain ⟨a1, cap1, rfl, hl1, _⟩ := h1'
  obtain ⟨a2, cap2, rfl, hl2, _⟩ := h2'
  go_enter Try.func44, Try.ntmps44
  go_wp2_with fail
  refine (c_spec_l26Same t t' xs ys _ _ _ _ _ (h1.below (by (repeat (first | (with_reducible assumption) | (with_reducible exact Below.refl _ _) | (with_reducible refine Below.setCell ?_ (by first | (simp; done) | (simp; omega)) _) | (with_reducible refine Below.al ?_ _) | (with_reducible refine Below.dr ?_) | (with_reducible refine Below.drN ?_ _) | (with_reducible refine Below.tr ?_ (by with_reducible assumption)))))) (h2.below (by (repeat (first | (with_reducible assumption) | (with_reducible exact Below.refl _ _) | (with_reducible refine Below.setCell ?_ (by first | (simp; done) | (simp; omega)) _) | (with_reducible refine Below.al ?_ _) | (with_reducible refine Below.dr ?_) | (with_reducible refine Below.drN ?_ _) | (with_reducible refine Below.tr ?_ (by with_reducible assumption)))))) (by go_simp) (by go_simp) (by go_simp) (by go_simp)).mono ?_; rintro e w1 ⟨rfl, hb1⟩
  go_wp2
  go_ret
  exact ⟨rfl, by (repeat (first | (with_reducible assumption) | (with_reducible exact Below.refl _ _) | (with_reducible refine Below.setCell ?_ (by first | (simp; done) | (simp; omega)) _) | (with_reducible refine Below.al ?_ _) | (with_reducible refine Below.dr ?_) | (with_reducible refine Below.drN ?_ _) | (with_reducible refine Below.tr ?_ (by with_reducible assumption))))⟩
end Go.Proofs.Ytpcaaohdlcoplaa
end
