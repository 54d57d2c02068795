/- Contracts on states by number: all states, their count, one of them, the next one. -/
import Derived.Test.YtggffkklfdpmkaaArcsOf
import Derived.Test.YtggffkklfdpmkaaIndex
import Derived.Test.YtggffkklfdpmkaaKeep
namespace Go.Proofs.Ytggffkklfdpmkaa
open Go.ChangeShapes Go.WideShapes Go.ChangeAt Go.RowKit
set_option linter.unusedVariables false
set_option linter.unusedSimpArgs false
theorem c_impl_AllStates (n h : Int) (w : World) (hc : graphC n h = 0) :
    Calls Try.prog 19 #[.int .i64 n, .int .i64 h] w fun e w' => ∃ v, e = .returned (.tuple #[v, .int .i64 0]) ∧ OwnS w.heap.size w'.heap.size h w' v (maskL n h) ∧ Below w.heap.size w w' := by
  have hk := graphC_ok hc
  have HC := Lib.hid hc
  clear hc
  go_enter Try.func19, Try.ntmps19
  go_wp2_with (first | ((go_at_call 59; refine (c_impl_graphCode _ _ _).mono ?_; rintro e w1 ⟨rfl, rfl⟩); rw [HC.out]) | (go_at_call 61; refine (c_impl_allStates n h _ (by omega)).mono ?_; rintro e w1 ⟨v, rfl, ho, hb⟩))
  go_ret2
  exact ⟨v, rfl, ho, hb⟩
theorem c_impl_StateCount (n h : Int) (w : World) (hc : graphC n h = 0) :
    Calls Try.prog 20 #[.int .i64 n, .int .i64 h] w fun e w' => e = .returned (.tuple #[.int .i64 ((maskL n h).length : Int), .int .i64 0]) ∧ Below w.heap.size w w' := by
  have hk := graphC_ok hc
  have HC := Lib.hid hc
  have hlen := maskL_len n h hk.1
  clear hc
  go_enter Try.func20, Try.ntmps20
  go_wp2_with (first | ((go_at_call 59; refine (c_impl_graphCode _ _ _).mono ?_; rintro e w1 ⟨rfl, rfl⟩); rw [HC.out]) | (go_at_call 61; refine (c_impl_allStates n h _ (by omega)).mono ?_; rintro e w1 ⟨v, rfl, ho, hb⟩; obtain ⟨a, cap, rfl, -, -⟩ := OwnRow.rd (rowS_len h) ho))
  go_ret2
  exact ⟨rfl, hb⟩
set_option maxHeartbeats 1000000 in
theorem c_impl_StateAt (n h : Int) (i : Nat) (w : World) (hc : graphC n h = 0) (hi : i < (maskL n h).length) :
    Calls Try.prog 23 #[.int .i64 n, .int .i64 h, .int .i64 (i : Int)] w fun e w' => e = .returned (.tuple #[.agg #[.int .i64 h, .int .i64 ((maskL n h).getD i 0)], .int .i64 0]) ∧ Below w.heap.size w w' := by
  have hk := graphC_ok hc
  have HC := Lib.hid hc
  have hlen := maskL_len n h hk.1
  have hib : inB (i : Int) 0 ((maskL n h).length - 1) = true := inB_iff.2 ⟨by omega, by omega⟩
  clear hc
  go_enter Try.func23, Try.ntmps23
  go_wp2_with fail
  have k0 : (w.alloc (Obj.cells #[Value.int IntKind.i64 0, Value.int IntKind.i64 0] 36)).cell? ⟨w.heap.size, 0, none⟩ = some (.int .i64 0) := by go_simp
  have k1 : (w.alloc (Obj.cells #[Value.int IntKind.i64 0, Value.int IntKind.i64 0] 36)).cell? ⟨w.heap.size, 1, none⟩ = some (.int .i64 0) := by go_simp
  have f0 : (w.alloc (Obj.cells #[Value.int IntKind.i64 0, Value.int IntKind.i64 0] 36)).frozen? ⟨w.heap.size, 0, none⟩ = false := by go_simp
  have f1 : (w.alloc (Obj.cells #[Value.int IntKind.i64 0, Value.int IntKind.i64 0] 36)).frozen? ⟨w.heap.size, 1, none⟩ = false := by go_simp
  have B0 : Below w.heap.size w (w.alloc (Obj.cells #[Value.int IntKind.i64 0, Value.int IntKind.i64 0] 36)) := by (repeat (first | (with_reducible assumption) | (with_reducible exact Below.refl _ _) | (with_reducible refine Below.setCell ?_ (by first | (simp; done) | (simp; omega)) _) | (with_reducible refine Below.al ?_ _) | (with_reducible refine Below.dr ?_) | (with_reducible refine Below.drN ?_ _) | (with_reducible refine Below.tr ?_ (by with_reducible assumption))))
  have hs0 : w.heap.size < (w.alloc (Obj.cells #[Value.int IntKind.i64 0, Value.int IntKind.i64 0] 36)).heap.size := by simp
  generalize (w.alloc (Obj.cells #[Value.int IntKind.i64 0, Value.int IntKind.i64 0] 36)) = W0 at *
  refine (c_impl_graphCode n h _).mono ?_; rintro e w1 ⟨rfl, rfl⟩; rw [HC.out]
  go_wp2_with fail
  refine (c_impl_allStates n h _ (by omega)).mono ?_; rintro e w2 ⟨v, rfl, ho, hb⟩
  have g0 := keepc hb k0
  have g1 := keepc hb k1
  have e0 := frozenc hb k0 f0
  have e1 := frozenc hb k1 f1
  have hs2 := hb.size
  obtain ⟨a2, cap2, rfl, hl2, hc2⟩ := OwnRow.rd (rowS_len h) ho
  obtain ⟨b1, o1, rfl, hx⟩ := hc2 i hi
  have hlt := (World.ownsRow.lt ho.1 b1 rfl).1
  have y0 : w2.cell? ⟨b1, o1 + i * 2, none⟩ = some (.int .i64 h) := hx 0 _ rfl
  have y1 : w2.cell? ⟨b1, o1 + i * 2 + 1, none⟩ = some (.int .i64 ((maskL n h).getD i 0)) := by
    have h1 := hx 1 (.int .i64 ((maskL n h)[i])) rfl
    rw [h1]; simp [List.getD, hi]
  have B2 : Below w.heap.size w w2 := B0.tr hb
  clear hx hc2 ho k0 k1 f0 f1
  obtain ⟨m, Hm⟩ : ∃ m, Hid ((maskL n h).getD i 0 = m) := ⟨_, rfl⟩
  rw [Hm.out] at y1
  obtain ⟨X0, X1, -, hg⟩ := set2 w2 w.heap.size (.int .i64 h) (.int .i64 m) _ _ g0 g1
  have BZ := (B2.setCell (p := ⟨w.heap.size, 0, none⟩) (Nat.le_refl _) (.int .i64 h)).setCell (p := ⟨w.heap.size, 1, none⟩) (Nat.le_refl _) (.int .i64 m)
  go_wp2_with (go_at_call 65; refine (c_impl_between _ _ _ _).mono ?_; rintro e w1 ⟨rfl, rfl⟩)
  generalize ((w2.setCell ⟨w.heap.size, 0, none⟩ (.int .i64 h)).setCell ⟨w.heap.size, 1, none⟩ (.int .i64 m)) = wz at *
  exact bodyPost_ret (v := .tuple #[.agg #[.int .i64 h, .int .i64 m], .int .i64 0]) (by simp [results, Try.results23, go_sem, X0, X1]) rfl ⟨by rw [Hm.out], BZ⟩
set_option maxHeartbeats 1000000 in
theorem c_spec_NextState (h m t : Int) (w : World) (hv : validB h m = true) (hcan : canB h m t = true) (hh : h ≤ 10) (hm : 0 ≤ m ∧ m < 1024) (ht : t ≤ 10) :
    Calls Try.prog 25 #[.agg #[.int .i64 h, .int .i64 m], .int .i64 t] w fun e w' => e = .returned (.tuple #[.agg #[.int .i64 h, .int .i64 (nextM m t)], .int .i64 0]) ∧ Below w.heap.size w w' := by
  obtain ⟨W0, hW0, k0, k1, k2, k3, B0⟩ := twoStates w 36 h m 0 0
  have hs0 : w.heap.size + 2 = W0.heap.size := by rw [hW0]; simp
  have f2 : W0.frozen? ⟨w.heap.size + 1, 0, none⟩ = false := by rw [hW0]; go_simp
  have f3 : W0.frozen? ⟨w.heap.size + 1, 1, none⟩ = false := by rw [hW0]; go_simp
  go_enter Try.func25, Try.ntmps25
  go_wp2_with fail
  rw [← hW0]
  clear hW0
  refine (c_spec_l08Ok h m _).mono ?_; rintro e w1 ⟨rfl, hb1⟩; rw [hv]
  have k0 := keepc hb1 k0
  have k1 := keepc hb1 k1
  have f2 := frozenc hb1 k2 f2
  have f3 := frozenc hb1 k3 f3
  have k2 := keepc hb1 k2
  have k3 := keepc hb1 k3
  go_wp2_with fail
  refine (c_spec_l08Can h m t _ hh hm).mono ?_; rintro e w2 ⟨rfl, hb2⟩; rw [hcan]
  have k0 := keepc hb2 k0
  have k1 := keepc hb2 k1
  have f2 := frozenc hb2 k2 f2
  have f3 := frozenc hb2 k3 f3
  have k2 := keepc hb2 k2
  have k3 := keepc hb2 k3
  go_wp2_with fail
  refine (c_spec_l08Next h m t _ hm ht).mono ?_; rintro e w3 ⟨rfl, hb3⟩
  have f2 := frozenc hb3 k2 f2
  have f3 := frozenc hb3 k3 f3
  have k2 := keepc hb3 k2
  have k3 := keepc hb3 k3
  have B3 := ((B0.tr hb1).tr hb2).tr hb3
  obtain ⟨X0, X1, -, hg⟩ := set2 w3 (w.heap.size + 1) (.int .i64 h) (.int .i64 (nextM m t)) _ _ k2 k3
  have BZ := (B3.setCell (p := ⟨w.heap.size + 1, 0, none⟩) (Nat.le_succ _) (.int .i64 h)).setCell (p := ⟨w.heap.size + 1, 1, none⟩) (Nat.le_succ _) (.int .i64 (nextM m t))
  go_wp2
  generalize ((w3.setCell ⟨w.heap.size + 1, 0, none⟩ (.int .i64 h)).setCell ⟨w.heap.size + 1, 1, none⟩ (.int .i64 (nextM m t))) = wz at *
  exact bodyPost_ret (v := .tuple #[.agg #[.int .i64 h, .int .i64 (nextM m t)], .int .i64 0]) (by simp [results, Try.results25, go_sem, X0, X1]) rfl ⟨rfl, BZ⟩
end Go.Proofs.Ytggffkklfdpmkaa
