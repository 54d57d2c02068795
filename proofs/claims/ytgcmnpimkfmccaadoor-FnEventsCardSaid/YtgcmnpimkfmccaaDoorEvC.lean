/- Walks: the order of events (the closure of EventsOf). -/
import Derived.Test.YtgcmnpimkfmccaaDoorSrtE
import Derived.Test.YtgcmnpimkfmccaaDoorFrF
import Derived.Test.YtgcmnpimkfmccaaDoorFrE
import Derived.Test.YtgcmnpimkfmccaaDoorMemR
namespace Go.Proofs.YtgcmnpimkfmccaaDoor
open Go.ChangeShapes Go.WideShapes Go.ChangeAt Go.RowKit Go.Sort
set_option linter.unusedSimpArgs false
set_option linter.unusedVariables false
theorem HoE.cells {w : World} {g : Nat} {d : Array Ev} (h : HoE w g d) (i : Nat) (hi : i < d.size) :
    w.cell? ⟨g, i * 4, none⟩ = some (.int .i64 d[i]!.tick) ∧ w.cell? ⟨g, i * 4 + 1, none⟩ = some (.bool d[i]!.thr) ∧ w.cell? ⟨g, i * 4 + 2, none⟩ = some (.int .i64 d[i]!.hand) ∧ w.cell? ⟨g, i * 4 + 3, none⟩ = some (.int .i64 d[i]!.prop) := by
  have k : ∀ c, c < 4 → w.cell? ⟨g, i * 4 + c, none⟩ = some (rowE d[i]!)[c]! := fun c hc => by
    have := (HoldsK.cell h hi hc).1
    rwa [Nat.zero_add] at this
  exact ⟨k 0 (by omega), k 1 (by omega), k 2 (by omega), k 3 (by omega)⟩
theorem ltE_c1 {a b : Ev} (h : ¬ a.tick = b.tick) : Hid (ltE a b = decide (a.tick < b.tick)) := by unfold Hid ltE; rw [beq_eq_false_iff_ne.2 h, cond_false]
theorem ltE_c2 {a b : Ev} (h : a.tick = b.tick) (h2 : ¬ a.hand = b.hand) : Hid (ltE a b = decide (a.hand < b.hand)) := by unfold Hid ltE; rw [beq_iff_eq.2 h, cond_true, beq_eq_false_iff_ne.2 h2, cond_false]
theorem ltE_c3 {a b : Ev} (h : a.tick = b.tick) (h2 : a.hand = b.hand) : Hid (ltE a b = (!a.thr && b.thr)) := by unfold Hid ltE; rw [beq_iff_eq.2 h, cond_true, beq_iff_eq.2 h2, cond_true]
set_option maxHeartbeats 4000000 in
set_option maxRecDepth 100000 in
theorem c_less (g bo n c i j : Nat) (d : Array Ev) (w : World) (hc : w.cell? ⟨bo, 0, none⟩ = some (.slice (some ⟨g, 0, none⟩) n c)) (hH : HoE w g d) (hdn : d.size = n) (hsz : n ≤ 1000000) (hi : i < n) (hj : j < n) :
    Calls Tryd.prog 21 #[.int .i64 i, .int .i64 j, .pointer (some ⟨bo, 0, none⟩)] w fun e w' => e = .returned (.bool (ltE d[i]! d[j]!)) ∧ Below w.heap.size w w' := by
  obtain ⟨a0, a1, a2, a3⟩ := hH.cells i (by omega)
  obtain ⟨b0, b1, b2, b3⟩ := hH.cells j (by omega)
  clear hH
  obtain ⟨x, hx⟩ : ∃ x, d[i]! = x := ⟨_, rfl⟩
  obtain ⟨y, hy⟩ : ∃ y, d[j]! = y := ⟨_, rfl⟩
  rw [hx] at a0 a1 a2 a3 ⊢
  rw [hy] at b0 b1 b2 b3 ⊢
  clear hx hy
  obtain ⟨x1, x2, x3, x4⟩ := x
  obtain ⟨y1, y2, y3, y4⟩ := y
  simp only at a0 a1 a2 a3 b0 b1 b2 b3
  have nc := World.new_ne w _ hc
  have na0 := World.new_ne w _ a0
  have na1 := World.new_ne w _ a1
  have na2 := World.new_ne w _ a2
  have na3 := World.new_ne w _ a3
  have nb0 := World.new_ne w _ b0
  have nb1 := World.new_ne w _ b1
  have nb2 := World.new_ne w _ b2
  have nb3 := World.new_ne w _ b3
  have hiI : (i : Int) < (n : Int) := by omega
  have hjI : (j : Int) < (n : Int) := by omega
  go_enter Tryd.func21, Tryd.ntmps21
  go_wp2_with fail
  go_region_held3 (fun w' => w'.cell? ⟨bo, 0, none⟩ = some (.slice (some ⟨g, 0, none⟩) n c) ∧ w'.cell? ⟨g, i * 4, none⟩ = some (.int .i64 x1) ∧ w'.cell? ⟨g, i * 4 + 1, none⟩ = some (.bool x2) ∧ w'.cell? ⟨g, i * 4 + 2, none⟩ = some (.int .i64 x3) ∧ w'.cell? ⟨g, i * 4 + 3, none⟩ = some (.int .i64 x4) ∧ w'.cell? ⟨g, j * 4, none⟩ = some (.int .i64 y1) ∧ w'.cell? ⟨g, j * 4 + 1, none⟩ = some (.bool y2) ∧ w'.cell? ⟨g, j * 4 + 2, none⟩ = some (.int .i64 y3) ∧ w'.cell? ⟨g, j * 4 + 3, none⟩ = some (.int .i64 y4))
    (go_keep) (fail)
  all_goals
    by_cases h1 : x1 = y1
    · have t1 : (x1 != y1) = false := by simp [h1]
      by_cases h3 : x3 = y3
      · have t3 : (x3 != y3) = false := by simp [h3]
        have HL := ltE_c3 (a := ⟨x1, x2, x3, x4⟩) (b := ⟨y1, y2, y3, y4⟩) h1 h3
        clear h1 h3
        cases x2 <;> cases y2 <;> (go_wp2; go_ret; exact ⟨by rw [HL.out]; rfl, by first | exact ((((Below.refl _ _).al _).al _).dr) | (repeat (first | (with_reducible assumption) | (with_reducible exact Below.refl _ _) | (with_reducible refine Below.setCell ?_ (by first | (simp; done) | (simp; omega)) _) | (with_reducible refine Below.al ?_ _) | (with_reducible refine Below.dr ?_) | (with_reducible refine Below.drN ?_ _) | (with_reducible refine Below.tr ?_ (by with_reducible assumption))))⟩)
      · have t3 : (x3 != y3) = true := by simp [h3]
        have HL := ltE_c2 (a := ⟨x1, x2, x3, x4⟩) (b := ⟨y1, y2, y3, y4⟩) h1 h3
        clear h1 h3
        go_wp2; go_ret; exact ⟨by rw [HL.out]; rfl, by first | exact ((((Below.refl _ _).al _).al _).dr) | (repeat (first | (with_reducible assumption) | (with_reducible exact Below.refl _ _) | (with_reducible refine Below.setCell ?_ (by first | (simp; done) | (simp; omega)) _) | (with_reducible refine Below.al ?_ _) | (with_reducible refine Below.dr ?_) | (with_reducible refine Below.drN ?_ _) | (with_reducible refine Below.tr ?_ (by with_reducible assumption))))⟩
    · have t1 : (x1 != y1) = true := by simp [h1]
      have HL := ltE_c1 (a := ⟨x1, x2, x3, x4⟩) (b := ⟨y1, y2, y3, y4⟩) h1
      clear h1
      go_wp2; go_ret; exact ⟨by rw [HL.out]; rfl, by first | exact ((((Below.refl _ _).al _).al _).dr) | (repeat (first | (with_reducible assumption) | (with_reducible exact Below.refl _ _) | (with_reducible refine Below.setCell ?_ (by first | (simp; done) | (simp; omega)) _) | (with_reducible refine Below.al ?_ _) | (with_reducible refine Below.dr ?_) | (with_reducible refine Below.drN ?_ _) | (with_reducible refine Below.tr ?_ (by with_reducible assumption))))⟩
end Go.Proofs.YtgcmnpimkfmccaaDoor
