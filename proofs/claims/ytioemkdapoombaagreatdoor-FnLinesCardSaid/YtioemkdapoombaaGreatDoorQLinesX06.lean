/- The law LinesX: what it rests on, part 6 of 46. -/
import Derived.Test.YtioemkdapoombaaGreatDoorQLinesX03
import Derived.Test.YtioemkdapoombaaGreatDoorQLinesX04
import Derived.Test.YtioemkdapoombaaGreatDoorQLinesX05
section
namespace Go.Proofs.YtioemkdapoombaaGreatDoor
open Go.ChangeShapes Go.WideShapes Go.ChangeAt Go.RowKit
set_option linter.unusedVariables false
set_option maxHeartbeats 1000000 in
theorem c_spec_l08Count (m : Int) (w : World) (hm : 0 ≤ m ∧ m < 1024) :
    Calls Tryz.prog 147 #[.int .i64 m] w fun e w' => e = .returned (.int .i64 (popI m)) ∧ w = w' := by
  go_enter Tryz.func147, Tryz.ntmps147
  go_wp2
  go_loop [0, 3] (fun x n => ∃ (j : Nat) (q : Int), j ≤ 10 ∧ Hid (q = m / 2 ^ j) ∧ 0 ≤ q ∧ q < 1024 ∧ x = .int .i64 q ∧ n = .int .i64 (popTo m j)) (fun x _ => (intOf x).toNat)
  case atStart => exact ⟨0, m, by omega, by unfold Hid; simp, hm.1, hm.2, rfl, rfl⟩
  case round =>
    obtain ⟨j, q, hj, hq, hq0, hq1, rfl, rfl⟩ := hrel
    have hbd := popTo_bd m j
    have ea := and_one q hq0 (by omega)
    by_cases hpos : 0 < q
    · have hj10 : j < 10 := by
        by_cases e : j = 10
        · have h1 := hq.out
          rw [e] at h1
          have : m / 2 ^ 10 = 0 := Int.ediv_eq_zero_of_lt hm.1 hm.2
          omega
        · omega
      have HS := Lib.hid (popTo_step m q j hq.out)
      have HD : Hid (q / 2 = m / 2 ^ (j + 1)) := by unfold Hid; rw [← div_step m j, hq.out]
      have hmod : 0 ≤ q % 2 ∧ q % 2 < 2 := by omega
      go_wp2
      go_round
      case rel => exact ⟨j + 1, q / 2, by omega, HD, by omega, by omega, rfl, by rw [HS.out]⟩
      case measure => simp [intOf]; omega
    · have hq00 : q = 0 := by omega
      have HP : Hid (popTo m j = popI m) := by
        apply popTo_all hm.1 _ hj
        have h1 := hq.out
        rw [hq00] at h1
        rcases Int.lt_or_le m (2 ^ j) with h2 | h2
        · exact h2
        · exfalso
          have h3 : 1 ≤ m / 2 ^ j := (Int.le_ediv_iff_mul_le (by have := pow_pos_int j; omega)).2 (by simpa using h2)
          omega
      clear hq00
      go_wp2
      go_ret
      exact ⟨by rw [← HP.out]; rfl, rfl⟩
theorem nat_pow (h : Int) : (((2 ^ h.toNat : Nat) : Int)) = 2 ^ h.toNat := by simp
set_option maxHeartbeats 1000000 in
theorem c_spec_l09Masks (n h : Int) (w : World) (hh : 0 ≤ h ∧ h ≤ 10) :
    Calls Tryz.prog 146 #[.int .i64 n, .int .i64 h] w fun e w' => ∃ v, e = .returned v ∧ OwnI1 w.heap.size w' v (maskL n h) ∧ Below w.heap.size w w' := by
  have hp := pow_le_1024 h.toNat (by omega)
  have hp1 := pow_pos_int h.toNat
  go_enter Tryz.func146, Tryz.ntmps146
  go_wp2
  go_loopw [5, 6] (fun v i wr => ∃ k : Nat, (k : Int) ≤ 2 ^ h.toNat ∧ i = .int .i64 k ∧ OwnI1 w.heap.size wr v (maskTo n k) ∧ Below w.heap.size w wr) (fun _ i _ => (2 ^ h.toNat - intOf i).toNat)
  case atStart => exact ⟨0, by omega, rfl, OwnI.made rfl rfl (Nat.le_refl _), by (repeat (first | (with_reducible assumption) | (with_reducible exact Below.refl _ _) | (with_reducible refine Below.setCell ?_ (by first | (simp; done) | (simp; omega)) _) | (with_reducible refine Below.al ?_ _) | (with_reducible refine Below.dr ?_) | (with_reducible refine Below.drN ?_ _) | (with_reducible refine Below.tr ?_ (by with_reducible assumption))))⟩
  case round =>
    obtain ⟨k, hk, rfl, hown, hb0⟩ := hrel
    have hml := maskTo_len n k
    have hs0 := hb0.size
    by_cases hlt : (k : Int) < 2 ^ h.toNat
    · cases hq : (popI (k : Int) == n)
      · have HM := Lib.hid (maskTo_no hq)
        go_wp2_with (go_at_call 147; refine (c_spec_l08Count _ _ (And.intro (Int.natCast_nonneg k) (by omega))).mono ?_; rintro e w1 ⟨rfl, rfl⟩)
        go_roundw
        case rel => exact ⟨k + 1, by omega, by go_num, by rw [HM.out]; exact hown, hb0⟩
        case measure => simp [intOf]; omega
      · have HM := Lib.hid (maskTo_yes hq)
        have hll : (maskTo n k).length < 1000000000 := by omega
        go_wp2_with (first | (go_at_call 147; refine (c_spec_l08Count _ _ (And.intro (Int.natCast_nonneg k) (by omega))).mono ?_; rintro e w1 ⟨rfl, rfl⟩) | (at_builtin; refine push_int rfl _ _ _ _ rfl Tryz.underlying26 infoI w.heap.size _ _ _ _ rfl rfl (by exact hown) hll hs0 ?_; intro v' w2 hown2 hb2 hs2))
        go_roundw
        case rel => exact ⟨k + 1, by omega, by go_num, by rw [HM.out]; exact hown2, hb2 _ hb0⟩
        case measure => simp [intOf]; omega
    · have HK : Hid (maskTo n k = maskL n h) := by
        unfold Hid maskL
        have e : k = 2 ^ h.toNat := by
          have h1 : ((k : Nat) : Int) = ((2 ^ h.toNat : Nat) : Int) := by rw [nat_pow]; omega
          exact_mod_cast h1
        rw [e]
      go_wp2
      go_ret
      exact ⟨_, rfl, by rw [← HK.out]; exact hown, hb0⟩
set_option maxHeartbeats 1000000 in
theorem c_spec_l09Find (L : List Int) (m : Int) (v : Value) (w : World) (h : RdI w v L) (hs : L.Pairwise (· < ·)) (hm : m ∈ L) (hlen : L.length ≤ 1000000) :
    Calls Tryz.prog 150 #[v, .int .i64 m] w fun e w' => e = .returned (.int .i64 (idx L m)) ∧ w = w' := by
  obtain ⟨a1, cap1, rfl, hl1, hc1⟩ := h
  have hp := idx_lt hm
  have hg := idx_get hm
  have HG : Hid (∀ i (hi : i < L.length), L[i] < m ↔ i < idx L m) := by
    intro i hi
    have := sorted_get hs i (idx L m) hi hp
    rw [hg] at this; exact this
  clear hg
  generalize idx L m = p at hp HG
  clear hs hm
  go_enter Tryz.func150, Tryz.ntmps150
  go_wp2
  go_loop [5, 6, 7] (fun lo hi _ => ∃ a b : Nat, a ≤ p ∧ p ≤ b ∧ b < L.length ∧ lo = .int .i64 a ∧ hi = .int .i64 b) (fun lo hi _ => (intOf hi - intOf lo).toNat)
  case atStart => exact ⟨0, L.length - 1, by omega, by omega, by omega, rfl, by (congr 1; omega)⟩
  case round =>
    obtain ⟨a, b, ha, hb, hbl, rfl, rfl⟩ := hrel
    by_cases hlt : a < b
    · obtain ⟨b1, o1, rfl, hx⟩ := hc1 ((a + b) / 2) (by omega)
      have e : L.getD ((a + b) / 2) 0 = L[(a + b) / 2]'(by omega) := by simp [List.getD, show (a + b) / 2 < L.length by omega]
      have hgo := HG.out ((a + b) / 2) (by omega)
      rw [← e] at hgo
      generalize L.getD ((a + b) / 2) 0 = x at hx hgo
      clear e
      by_cases hxm : x < m
      · have hap := hgo.1 hxm
        clear hgo
        go_wp2
        go_round
        case rel => exact ⟨(a + b) / 2 + 1, b, by omega, by omega, by omega, by go_num, rfl⟩
        case measure => simp [intOf]; omega
      · have hap : ¬ (a + b) / 2 < p := fun h => hxm (hgo.2 h)
        clear hgo
        go_wp2
        go_round
        case rel => exact ⟨a, (a + b) / 2, by omega, by omega, by omega, rfl, by go_num⟩
        case measure => simp [intOf]; omega
    · obtain rfl : a = p := by omega
      go_wp2
      go_ret
      exact ⟨rfl, rfl⟩
end Go.Proofs.YtioemkdapoombaaGreatDoor
end
section
namespace Go.Proofs.YtioemkdapoombaaGreatDoor
open Go.ChangeShapes Go.WideShapes Go.ChangeAt Go.RowKit
set_option linter.unusedVariables false
/-- where an arm of the walk is to stop, so that the next step can be taken in the open -/
def Stopped (p : Prop) : Prop := p
theorem stop_of {p : Prop} (h : Stopped p) : p := h
theorem keepc {a b : World} (hb : Below a.heap.size a b) {bl o : Nat} {v : Value} (k : a.cell? ⟨bl, o, none⟩ = some v) : b.cell? ⟨bl, o, none⟩ = some v :=
  (hb.cell (p := ⟨bl, o, none⟩) (World.block_lt_of_cell? a _ k)).trans k
theorem twoStates (w : World) (T : TypeId) (h m h2 m2 : Int) : ∃ W0, W0 = (w.alloc (Obj.cells #[Value.int IntKind.i64 h, Value.int IntKind.i64 m] T)).alloc (Obj.cells #[Value.int IntKind.i64 h2, Value.int IntKind.i64 m2] T) ∧
    W0.cell? ⟨w.heap.size, 0, none⟩ = some (.int .i64 h) ∧ W0.cell? ⟨w.heap.size, 1, none⟩ = some (.int .i64 m) ∧ W0.cell? ⟨w.heap.size + 1, 0, none⟩ = some (.int .i64 h2) ∧ W0.cell? ⟨w.heap.size + 1, 1, none⟩ = some (.int .i64 m2) ∧ Below w.heap.size w W0 := by
  refine ⟨_, rfl, ?_, ?_, ?_, ?_, ((Below.refl _ _).al _).al _⟩ <;> go_simp
theorem oneState (w : World) (T : TypeId) (h m : Int) : ∃ W0, W0 = w.alloc (Obj.cells #[Value.int IntKind.i64 h, Value.int IntKind.i64 m] T) ∧
    W0.cell? ⟨w.heap.size, 0, none⟩ = some (.int .i64 h) ∧ W0.cell? ⟨w.heap.size, 1, none⟩ = some (.int .i64 m) ∧ Below w.heap.size w W0 := by
  refine ⟨_, rfl, ?_, ?_, (Below.refl _ _).al _⟩ <;> go_simp
theorem frozenc {a b : World} (hb : Below a.heap.size a b) {bl o : Nat} {v : Value} (k : a.cell? ⟨bl, o, none⟩ = some v) (hf : a.frozen? ⟨bl, o, none⟩ = false) : b.frozen? ⟨bl, o, none⟩ = false :=
  (World.frozen?_of_block (w := a) (hb.block bl (World.block_lt_of_cell? a _ k))).trans hf
theorem grown_c {a b : World} {r : Option Nat} (hg : a.grownBy b r) {bl o : Nat} {v : Value} (k : a.cell? ⟨bl, o, none⟩ = some v) (hr : r ≠ some bl) : b.cell? ⟨bl, o, none⟩ = some v :=
  (World.cell?_of_block (w := a) (hg.block bl (World.block_lt_of_cell? a _ k) (fun e => hr e.symm))).trans k
theorem grown_f {a b : World} {r : Option Nat} (hg : a.grownBy b r) {bl o : Nat} {v : Value} (k : a.cell? ⟨bl, o, none⟩ = some v) (hf : a.frozen? ⟨bl, o, none⟩ = false) (hr : r ≠ some bl) : b.frozen? ⟨bl, o, none⟩ = false :=
  (World.frozen?_of_block (w := a) (hg.block bl (World.block_lt_of_cell? a _ k) (fun e => hr e.symm))).trans hf
theorem al_c {a : World} (ob : Obj) {bl o : Nat} {v : Value} (k : a.cell? ⟨bl, o, none⟩ = some v) : (a.alloc ob).cell? ⟨bl, o, none⟩ = some v := keepc ((Below.refl _ _).al ob) k
theorem al_f {a : World} (ob : Obj) {bl o : Nat} {v : Value} (k : a.cell? ⟨bl, o, none⟩ = some v) (hf : a.frozen? ⟨bl, o, none⟩ = false) : (a.alloc ob).frozen? ⟨bl, o, none⟩ = false := frozenc ((Below.refl _ _).al ob) k hf
/-- two cells of a block written -/
theorem set2 (W : World) (g : Nat) (a b u0 u1 : Value) (k0 : W.cell? ⟨g, 0, none⟩ = some u0) (k1 : W.cell? ⟨g, 1, none⟩ = some u1) :
    ((W.setCell ⟨g, 0, none⟩ a).setCell ⟨g, 1, none⟩ b).cell? ⟨g, 0, none⟩ = some a ∧ ((W.setCell ⟨g, 0, none⟩ a).setCell ⟨g, 1, none⟩ b).cell? ⟨g, 1, none⟩ = some b ∧
    (∀ p, ((W.setCell ⟨g, 0, none⟩ a).setCell ⟨g, 1, none⟩ b).frozen? p = W.frozen? p) ∧ W.grownBy ((W.setCell ⟨g, 0, none⟩ a).setCell ⟨g, 1, none⟩ b) (some g) := by
  have hin : ∀ i, i < [a, b].length → (W.cell? ⟨g, 0 + i, none⟩).isSome = true := fun i hi => by
    simp only [List.length_cons, List.length_nil] at hi
    rw [Nat.zero_add]
    have : i = 0 ∨ i = 1 := by omega
    rcases this with rfl | rfl
    · rw [k0]; rfl
    · rw [k1]; rfl
  exact ⟨World.cell?_setCells_in g [a, b] 0 W hin 0 (by simp), World.cell?_setCells_in g [a, b] 0 W hin 1 (by simp), fun p => frozen_setCells g p [a, b] 0 W, grownBy_setCells W g [a, b] 0⟩
end Go.Proofs.YtioemkdapoombaaGreatDoor
end
