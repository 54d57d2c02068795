/- The law OrdersX: what it rests on, part 4 of 48. -/
import Derived.Test.YtgcmnpimkfmccaaQOrdersX03
import Derived.Test.YtgcmnpimkfmccaaQOrdersX02
section
namespace Go.Proofs.Ytgcmnpimkfmccaa
open Go.ChangeShapes Go.WideShapes Go.ChangeAt Go.RowKit
set_option linter.unusedVariables false
theorem infoI : (Try.prog.info? 2).map (fun i => (i.zero, i.size, i.bytes)) = some (some (.int .i64 0), 1, 8) := by kernel_rfl
abbrev OwnI1 (B : Nat) (w : World) (v : Value) (xs : List Int) : Prop := OwnI 2 B w v xs
set_option maxHeartbeats 1000000 in
set_option maxRecDepth 100000 in
theorem c_impl_State_throws (h m : Int) (w : World) (hh : 0 ≤ h ∧ h ≤ 10) (hm : 0 ≤ m ∧ m < 1024) :
    Calls Try.prog 71 #[.agg #[.int .i64 h, .int .i64 m]] w fun e w' => ∃ v, e = .returned v ∧ OwnI1 w.heap.size w' v (throwsL h m) ∧ Below w.heap.size w w' := by
  go_enter Try.func71, Try.ntmps71
  go_wp2
  go_loopw [3, 4, 9] (fun v _ i wr => ∃ k : Nat, (k : Int) ≤ h + 1 ∧ i = .int .i64 k ∧ OwnI1 (w.heap.size + 1) wr v (throwsTo h m k) ∧ Below (w.heap.size + 1) (w.alloc (Obj.cells #[Value.int IntKind.i64 h, Value.int IntKind.i64 m] 63)) wr) (fun _ _ i _ => (h + 1 - intOf i).toNat)
  case atStart => exact ⟨0, by omega, rfl, OwnI.made rfl (by simp) (by simp), (Below.refl _ _).alloc (by simp) _⟩
  case round =>
    obtain ⟨k, hk, rfl, hown, hb0⟩ := hrel
    have hc0 : ∀ o, wr.cell? ⟨w.heap.size, o, none⟩ = (w.alloc (Obj.cells #[Value.int IntKind.i64 h, Value.int IntKind.i64 m] 63)).cell? ⟨w.heap.size, o, none⟩ := fun o => hb0.cell (p := ⟨w.heap.size, o, none⟩) (by simp)
    have hs0 : w.heap.size + 1 ≤ wr.heap.size := by simpa using hb0.size
    have htl := throwsTo_len h m k
    by_cases hlt : (k : Int) < h + 1
    · cases hcan : canB h m k
      · go_wp2_with (go_at_call 103; refine (c_impl_State_can _ _ _ _ (by omega) hm).mono ?_; rintro e w1 ⟨rfl, hb⟩; obtain ⟨hc, hf⟩ := bcell hb)
        go_roundw
        case rel => exact ⟨k + 1, by omega, by go_num, by rw [throwsTo_no hcan]; exact hown.below hb, hb0.trans (hb.mono hs0)⟩
        case measure => simp [intOf]; omega
      · go_wp2_with (first | (go_at_call 103; refine (c_impl_State_can _ _ _ _ (by omega) hm).mono ?_; rintro e w1 ⟨rfl, hb⟩; obtain ⟨hc, hf⟩ := bcell hb) | (at_builtin; refine push_int rfl _ _ _ _ rfl Try.underlying28 infoI (w.heap.size + 1) _ _ _ _ rfl rfl (OwnI.below hown hb) (by omega) (by have := hb.size; omega) ?_; intro v' w2 hown2 hb2 hs2))
        go_roundw
        case rel => exact ⟨k + 1, by omega, by go_num, by rw [throwsTo_yes hcan]; exact hown2, hb2 _ (hb0.trans (hb.mono hs0))⟩
        case measure => simp [intOf]; omega
    · have hk1 : (h + 1).toNat = k := by omega
      have H : Hid (throwsTo h m k = throwsL h m) := by unfold Hid throwsL; rw [hk1]
      clear hk1
      go_wp2
      go_ret
      exact ⟨_, rfl, by rw [← H.out]; exact hown.base (by omega), ((Below.refl _ _).al _).trans (hb0.mono (by simp))⟩
set_option maxHeartbeats 1000000 in
set_option maxRecDepth 100000 in
theorem c_spec_l08Throws (h m : Int) (w : World) (hh : 0 ≤ h ∧ h ≤ 10) (hm : 0 ≤ m ∧ m < 1024) :
    Calls Try.prog 109 #[.agg #[.int .i64 h, .int .i64 m]] w fun e w' => ∃ v, e = .returned v ∧ OwnI1 w.heap.size w' v (throwsL h m) ∧ Below w.heap.size w w' := by
  go_enter Try.func109, Try.ntmps109
  go_wp2
  go_loopw [3, 4] (fun v i wr => ∃ k : Nat, (k : Int) ≤ h + 1 ∧ i = .int .i64 k ∧ OwnI1 (w.heap.size + 1) wr v (throwsTo h m k) ∧ Below (w.heap.size + 1) (w.alloc (Obj.cells #[Value.int IntKind.i64 h, Value.int IntKind.i64 m] 63)) wr) (fun _ i _ => (h + 1 - intOf i).toNat)
  case atStart => exact ⟨0, by omega, rfl, OwnI.made rfl (by simp) (by simp), (Below.refl _ _).alloc (by simp) _⟩
  case round =>
    obtain ⟨k, hk, rfl, hown, hb0⟩ := hrel
    have hc0 : ∀ o, wr.cell? ⟨w.heap.size, o, none⟩ = (w.alloc (Obj.cells #[Value.int IntKind.i64 h, Value.int IntKind.i64 m] 63)).cell? ⟨w.heap.size, o, none⟩ := fun o => hb0.cell (p := ⟨w.heap.size, o, none⟩) (by simp)
    have hs0 : w.heap.size + 1 ≤ wr.heap.size := by simpa using hb0.size
    have htl := throwsTo_len h m k
    by_cases hlt : (k : Int) < h + 1
    · cases hcan : canB h m k
      · go_wp2_with (go_at_call 134; refine (c_spec_l08Can _ _ _ _ (by omega) hm).mono ?_; rintro e w1 ⟨rfl, hb⟩; obtain ⟨hc, hf⟩ := bcell hb)
        go_roundw
        case rel => exact ⟨k + 1, by omega, by go_num, by rw [throwsTo_no hcan]; exact hown.below hb, hb0.trans (hb.mono hs0)⟩
        case measure => simp [intOf]; omega
      · go_wp2_with (first | (go_at_call 134; refine (c_spec_l08Can _ _ _ _ (by omega) hm).mono ?_; rintro e w1 ⟨rfl, hb⟩; obtain ⟨hc, hf⟩ := bcell hb) | (at_builtin; refine push_int rfl _ _ _ _ rfl Try.underlying28 infoI (w.heap.size + 1) _ _ _ _ rfl rfl (OwnI.below hown hb) (by omega) (by have := hb.size; omega) ?_; intro v' w2 hown2 hb2 hs2))
        go_roundw
        case rel => exact ⟨k + 1, by omega, by go_num, by rw [throwsTo_yes hcan]; exact hown2, hb2 _ (hb0.trans (hb.mono hs0))⟩
        case measure => simp [intOf]; omega
    · have hk1 : (h + 1).toNat = k := by omega
      have H : Hid (throwsTo h m k = throwsL h m) := by unfold Hid throwsL; rw [hk1]
      clear hk1
      go_wp2
      go_ret
      exact ⟨_, rfl, by rw [← H.out]; exact hown.base (by omega), ((Below.refl _ _).al _).trans (hb0.mono (by simp))⟩
end Go.Proofs.Ytgcmnpimkfmccaa
end
section
namespace Go.Proofs.Ytgcmnpimkfmccaa
open Go.ChangeShapes Go.WideShapes Go.ChangeAt Go.RowKit
set_option linter.unusedVariables false
theorem eq_take_succ {xs ys : List Int} {k : Nat} (h : k < xs.length) (h2 : k < ys.length) (he : xs.take k = ys.take k) (hx : xs.getD k 0 = ys.getD k 0) : xs.take (k + 1) = ys.take (k + 1) := by
  rw [List.take_add_one, List.take_add_one, he, List.getElem?_eq_getElem h, List.getElem?_eq_getElem h2]
  have hx' : xs[k] = ys[k] := by simpa [List.getElem?_eq_getElem h, List.getElem?_eq_getElem h2, List.getD] using hx
  rw [hx']
theorem ne_of_at {xs ys : List Int} (k : Nat) (hne : xs.getD k 0 ≠ ys.getD k 0) : xs ≠ ys := by
  intro e; subst e; exact hne rfl
end Go.Proofs.Ytgcmnpimkfmccaa
end
section
namespace Go.Proofs.Ytgcmnpimkfmccaa
open Go.ChangeShapes Go.WideShapes Go.ChangeAt Go.RowKit
set_option linter.unusedVariables false
/-- where an arm of the walk is to stop, so that the next step can be taken in the open -/
def Stopped (p : Prop) : Prop := p
theorem stop_of {p : Prop} (h : Stopped p) : p := h
theorem keepc {a b : World} (hb : Below a.heap.size a b) {bl o : Nat} {v : Value} (k : a.cell? ⟨bl, o, none⟩ = some v) : b.cell? ⟨bl, o, none⟩ = some v :=
  (hb.cell (p := ⟨bl, o, none⟩) (World.block_lt_of_cell? a _ k)).trans k
theorem twoStates (w : World) (T : TypeId) (h m h2 m2 : Int) : ∃ W0, W0 = (w.alloc (Obj.cells #[Value.int IntKind.i64 h, Value.int IntKind.i64 m] T)).alloc (Obj.cells #[Value.int IntKind.i64 h2, Value.int IntKind.i64 m2] T) ∧
    W0.cell? ⟨w.heap.size, 0, none⟩ = some (.int .i64 h) ∧ W0.cell? ⟨w.heap.size, 1, none⟩ = some (.int .i64 m) ∧ W0.cell? ⟨w.heap.size + 1, 0, none⟩ = some (.int .i64 h2) ∧ W0.cell? ⟨w.heap.size + 1, 1, none⟩ = some (.int .i64 m2) ∧ Below w.heap.size w W0 := by
  refine ⟨_, rfl, ?_, ?_, ?_, ?_, ((Below.refl _ _).al _).al _⟩ <;> go_simp
theorem frozenc {a b : World} (hb : Below a.heap.size a b) {bl o : Nat} {v : Value} (k : a.cell? ⟨bl, o, none⟩ = some v) (hf : a.frozen? ⟨bl, o, none⟩ = false) : b.frozen? ⟨bl, o, none⟩ = false :=
  (World.frozen?_of_block (w := a) (hb.block bl (World.block_lt_of_cell? a _ k))).trans hf
theorem grown_c {a b : World} {r : Option Nat} (hg : a.grownBy b r) {bl o : Nat} {v : Value} (k : a.cell? ⟨bl, o, none⟩ = some v) (hr : r ≠ some bl) : b.cell? ⟨bl, o, none⟩ = some v :=
  (World.cell?_of_block (w := a) (hg.block bl (World.block_lt_of_cell? a _ k) (fun e => hr e.symm))).trans k
theorem grown_f {a b : World} {r : Option Nat} (hg : a.grownBy b r) {bl o : Nat} {v : Value} (k : a.cell? ⟨bl, o, none⟩ = some v) (hf : a.frozen? ⟨bl, o, none⟩ = false) (hr : r ≠ some bl) : b.frozen? ⟨bl, o, none⟩ = false :=
  (World.frozen?_of_block (w := a) (hg.block bl (World.block_lt_of_cell? a _ k) (fun e => hr e.symm))).trans hf
theorem al_c {a : World} (ob : Obj) {bl o : Nat} {v : Value} (k : a.cell? ⟨bl, o, none⟩ = some v) : (a.alloc ob).cell? ⟨bl, o, none⟩ = some v := keepc ((Below.refl _ _).al ob) k
theorem al_f {a : World} (ob : Obj) {bl o : Nat} {v : Value} (k : a.cell? ⟨bl, o, none⟩ = some v) (hf : a.frozen? ⟨bl, o, none⟩ = false) : (a.alloc ob).frozen? ⟨bl, o, none⟩ = false := frozenc ((Below.refl _ _).al ob) k hf
/-- two cells of a block written -/
theorem set2 (W : World) (g : Nat) (a b u0 u1 : Value) (k0 : W.cell? ⟨g, 0, none⟩ = some u0) (k1 : W.cell? ⟨g, 1, none⟩ = some u1) :
    ((W.setCell ⟨g, 0, none⟩ a).setCell ⟨g, 1, none⟩ b).cell? ⟨g, 0, none⟩ = some a ∧ ((W.setCell ⟨g, 0, none⟩ a).setCell ⟨g, 1, none⟩ b).cell? ⟨g, 1, none⟩ = some b ∧
    (∀ p, ((W.setCell ⟨g, 0, none⟩ a).setCell ⟨g, 1, none⟩ b).frozen? p = W.frozen? p) ∧ W.grownBy ((W.setCell ⟨g, 0, none⟩ a).setCell ⟨g, 1, none⟩ b) (some g) := by
  have hin : ∀ i, i < [a, b].length → (W.cell? ⟨g, 0 + i, none⟩).isSome = true := fun i hi => by
    simp only [List.length_cons, List.length_nil] at hi
    rw [Nat.zero_add]
    have : i = 0 ∨ i = 1 := by omega
    rcases this with rfl | rfl
    · rw [k0]; rfl
    · rw [k1]; rfl
  exact ⟨World.cell?_setCells_in g [a, b] 0 W hin 0 (by simp), World.cell?_setCells_in g [a, b] 0 W hin 1 (by simp), fun p => frozen_setCells g p [a, b] 0 W, grownBy_setCells W g [a, b] 0⟩
end Go.Proofs.Ytgcmnpimkfmccaa
end
