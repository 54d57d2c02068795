/- The law WrittenX: what it rests on, part 31 of 46. -/
import Derived.Test.YtioemkdapoombaaGreatDoorQWrittenX30
namespace Go.Proofs.YtioemkdapoombaaGreatDoor
open Go.ChangeShapes Go.WideShapes Go.ChangeAt Go.RowKit
set_option linter.unusedVariables false
set_option linter.unusedSimpArgs false
theorem boxState (w : World) (T S : TypeId) (a b : Value) : ∃ W0, W0 = (w.alloc (Obj.cells #[a, b] T)).alloc (Obj.cells #[Value.int IntKind.i64 0, Value.int IntKind.i64 0] S) ∧
    W0.cell? ⟨w.heap.size, 0, none⟩ = some a ∧ W0.cell? ⟨w.heap.size, 1, none⟩ = some b ∧ W0.cell? ⟨w.heap.size + 1, 0, none⟩ = some (.int .i64 0) ∧ W0.cell? ⟨w.heap.size + 1, 1, none⟩ = some (.int .i64 0) ∧
    W0.frozen? ⟨w.heap.size + 1, 0, none⟩ = false ∧ W0.frozen? ⟨w.heap.size + 1, 1, none⟩ = false ∧ Below w.heap.size w W0 ∧ W0.heap.size = w.heap.size + 2 := by
  refine ⟨_, rfl, ?_, ?_, ?_, ?_, ?_, ?_, ((Below.refl _ _).al _).al _, by simp⟩ <;> go_simp
set_option maxHeartbeats 2000000 in
set_option maxRecDepth 100000 in
theorem c_impl_Routine_first (X : List Part2) (h : Int) (v : Value) (w : World) (hr : RdP w v X) (R : RoutOk h X) :
    Calls Tryz.prog 45 #[.agg #[.int .i64 h, v]] w fun e w' => e = .returned (.agg #[.int .i64 h, .int .i64 (grR X)]) ∧ Below w.heap.size w w' := by
  obtain ⟨W0, hW0, k0, k1, r0, r1, f0, f1, B0, hs0⟩ := boxState w 34 25 (.int .i64 h) v
  have h0 : 0 < X.length := by have := R.hl; omega
  have hv := R.hv 0 h0
  have hn := R.hn 0 h0
  have hb := R.n
  have hhh := R.hh
  rw [patR_at h0] at hv hn
  obtain ⟨a1, cap1, rfl, hl1, hc⟩ := hr
  obtain ⟨b1, o1, u, rfl, x0, -, hu⟩ := hc 0 h0
  clear hc
  have x0 : w.cell? ⟨b1, o1, none⟩ = some u := by simpa using x0
  have hbl : b1 < w.heap.size := World.block_lt_of_cell? w _ x0
  have hne1 : ¬ w.heap.size + 1 = b1 := by omega
  have x0 := keepc B0 x0
  have hu := hu.below B0
  obtain ⟨p, Hp⟩ : ∃ p, Hid (X[0].1 = p) := ⟨X[0].1, Lib.hid rfl⟩
  rw [Hp.out] at hu hv hn
  have hnb : 0 ≤ propsP p ∧ propsP p ≤ 10 := by omega
  have HG : Hid (groundI (propsP p) = grR X) := by unfold Hid grR; rw [hn]
  have hin : (0 : Int) < (X.length : Int) := by omega
  go_enter Tryz.func45, Tryz.ntmps45
  go_wp2_with fail
  rw [← hW0]
  clear hW0
  go_region_held3 (fun w' => w'.cell? ⟨w.heap.size, 0, none⟩ = some (.int .i64 h) ∧ w'.cell? ⟨w.heap.size, 1, none⟩ = some (.slice (some ⟨b1, o1, none⟩) X.length cap1) ∧ w'.cell? ⟨b1, o1, none⟩ = some u)
    (go_keep)
    ((go_at_call 82; refine (c_impl_ground p h _ _ (hu.below ((Below.refl _ _).dr)) hv hnb).mono ?_; rintro e w2 ⟨rfl, hb2⟩; rw [HG.out]; have hb2' := below_drew hb2; have q0 := keepc hb2' k0; have q1 := keepc hb2' k1; have q2 := keepc hb2' x0; have q3 := keepc hb2' r0; have q4 := keepc hb2' r1; have g0 := frozenc hb2' r0 f0; have g1 := frozenc hb2' r1 f1))
  have hg := set2 w2 (w.heap.size + 1) (.int .i64 h) (.int .i64 (grR X)) _ _ q3 q4
  have BZ : Below w.heap.size w ((w2.setCell ⟨w.heap.size + 1, 0, none⟩ (.int .i64 h)).setCell ⟨w.heap.size + 1, 1, none⟩ (.int .i64 (grR X))) := ((B0.tr hb2').setCell (p := ⟨w.heap.size + 1, 0, none⟩) (Nat.le_succ _) _).setCell (p := ⟨w.heap.size + 1, 1, none⟩) (Nat.le_succ _) _
  go_wp2
  obtain ⟨X0, X1, -, -⟩ := hg
  generalize ((w2.setCell ⟨w.heap.size + 1, 0, none⟩ (.int .i64 h)).setCell ⟨w.heap.size + 1, 1, none⟩ (.int .i64 (grR X))) = wz at *
  exact bodyPost_ret (v := .agg #[.int .i64 h, .int .i64 (grR X)]) (by simp [results, Tryz.results45, go_sem, X0, X1]) rfl ⟨rfl, BZ⟩
set_option maxHeartbeats 2000000 in
set_option maxRecDepth 100000 in
theorem c_impl_Routine_stateAt (X : List Part2) (h : Int) (k : Nat) (v : Value) (w : World) (hr : RdP w v X) (R : RoutOk h X) (hk : k < X.length) :
    Calls Tryz.prog 83 #[.agg #[.int .i64 h, v], .int .i64 (k : Int)] w fun e w' => e = .returned (.agg #[.int .i64 h, .int .i64 (stR h X k)]) ∧ Below w.heap.size w w' := by
  obtain ⟨W0, hW0, k0, k1, r0, r1, f0, f1, B0, hs0⟩ := boxState w 34 25 (.int .i64 h) v
  have hv := R.hv k hk
  have hhh := R.hh
  have HS : Hid (stM (patR X k) 0 h = stR h X k) := rfl
  rw [patR_at hk] at hv HS
  obtain ⟨a1, cap1, rfl, hl1, hc⟩ := hr
  obtain ⟨b1, o1, u, rfl, x0, -, hu⟩ := hc k hk
  clear hc
  have hbl : b1 < w.heap.size := World.block_lt_of_cell? w _ x0
  have hne1 : ¬ w.heap.size + 1 = b1 := by omega
  have x0 := keepc B0 x0
  have hu := hu.below B0
  obtain ⟨p, Hp⟩ : ∃ p, Hid (X[k].1 = p) := ⟨X[k].1, Lib.hid rfl⟩
  rw [Hp.out] at hu hv HS
  have hin0 : (0 : Int) ≤ (k : Int) := by omega
  have hin : (k : Int) < (X.length : Int) := by omega
  go_enter Tryz.func83, Tryz.ntmps83
  go_wp2_with fail
  rw [← hW0]
  clear hW0
  go_region_held3 (fun w' => w'.cell? ⟨w.heap.size, 0, none⟩ = some (.int .i64 h) ∧ w'.cell? ⟨w.heap.size, 1, none⟩ = some (.slice (some ⟨b1, o1, none⟩) X.length cap1) ∧ w'.cell? ⟨b1, o1 + k * 2, none⟩ = some u)
    (go_keep)
    ((go_at_call 112; refine (c_impl_stateOf p 0 h _ _ (hu.below ((Below.refl _ _).dr)) hv (by omega) hhh).mono ?_; rintro e w2 ⟨rfl, hb2⟩; rw [HS.out]; have hb2' := below_drew hb2; have q0 := keepc hb2' k0; have q1 := keepc hb2' k1; have q2 := keepc hb2' x0; have q3 := keepc hb2' r0; have q4 := keepc hb2' r1; have g0 := frozenc hb2' r0 f0; have g1 := frozenc hb2' r1 f1))
  have hg := set2 w2 (w.heap.size + 1) (.int .i64 h) (.int .i64 (stR h X k)) _ _ q3 q4
  have BZ : Below w.heap.size w ((w2.setCell ⟨w.heap.size + 1, 0, none⟩ (.int .i64 h)).setCell ⟨w.heap.size + 1, 1, none⟩ (.int .i64 (stR h X k))) := ((B0.tr hb2').setCell (p := ⟨w.heap.size + 1, 0, none⟩) (Nat.le_succ _) _).setCell (p := ⟨w.heap.size + 1, 1, none⟩) (Nat.le_succ _) _
  go_wp2
  obtain ⟨X0, X1, -, -⟩ := hg
  generalize ((w2.setCell ⟨w.heap.size + 1, 0, none⟩ (.int .i64 h)).setCell ⟨w.heap.size + 1, 1, none⟩ (.int .i64 (stR h X k))) = wz at *
  exact bodyPost_ret (v := .agg #[.int .i64 h, .int .i64 (stR h X k)]) (by simp [results, Tryz.results83, go_sem, X0, X1]) rfl ⟨rfl, BZ⟩
end Go.Proofs.YtioemkdapoombaaGreatDoor
namespace Go.Proofs.YtioemkdapoombaaGreatDoor
open Go.ChangeShapes Go.WideShapes Go.ChangeAt Go.RowKit
set_option linter.unusedVariables false
set_option linter.unusedSimpArgs false
set_option maxHeartbeats 4000000 in
set_option maxRecDepth 100000 in
theorem c_impl_Routine_bridges (X : List Part2) (h : Int) (v : Value) (w : World) (hr : RdP w v X) (R : RoutOk h X) :
    Calls Tryz.prog 46 #[.agg #[.int .i64 h, v]] w fun e w' => ∃ u, e = .returned u ∧ OwnGG w.heap.size w'.heap.size w' u (brR h X) ∧ Below w.heap.size w w' := by
  obtain ⟨W0, hW0, k0, k1, B0⟩ := twoVals w 34 (.int .i64 h) v
  have hr' := hr
  obtain ⟨a1, cap1, rfl, hl1, -⟩ := hr'
  have HH := Lib.hid (hr.below B0)
  have HRW := Lib.hid hr
  have hxl := R.hl
  clear hr
  go_enter Tryz.func46, Tryz.ntmps46
  go_wp2_with fail
  rw [← hW0]
  clear hW0
  refine (c_impl_Routine_first X h _ _ HH.out R).mono ?_; rintro e w1 ⟨rfl, hb1⟩
  have B1 := B0.tr hb1
  have k0 := keepc hb1 k0
  have k1 := keepc hb1 k1
  have k0a := al_c (Obj.cells #[Value.int IntKind.i64 h, Value.int IntKind.i64 (grR X)] 25) (al_c (Obj.cells #[] 26) k0)
  have k1a := al_c (Obj.cells #[Value.int IntKind.i64 h, Value.int IntKind.i64 (grR X)] 25) (al_c (Obj.cells #[] 26) k1)
  have W2e : ∃ W2, W2 = (w1.alloc (Obj.cells #[] 26)).alloc (Obj.cells #[Value.int IntKind.i64 h, Value.int IntKind.i64 (grR X)] 25) := ⟨_, rfl⟩
  obtain ⟨W2, hW2⟩ := W2e
  have B2 : Below w1.heap.size w1 W2 := by rw [hW2]; exact ((Below.refl _ _).al _).al _
  have n0 : W2.cell? ⟨w1.heap.size + 1, 0, none⟩ = some (.int .i64 h) := by rw [hW2]; go_simp
  have n1 : W2.cell? ⟨w1.heap.size + 1, 1, none⟩ = some (.int .i64 (grR X)) := by rw [hW2]; go_simp
  have f0 : W2.frozen? ⟨w1.heap.size + 1, 0, none⟩ = false := by rw [hW2]; go_simp
  have f1 : W2.frozen? ⟨w1.heap.size + 1, 1, none⟩ = false := by rw [hW2]; go_simp
  have hs2 : W2.heap.size = w1.heap.size + 2 := by rw [hW2]; simp
  have k0 := keepc B2 k0
  have k1 := keepc B2 k1
  have BW2 := B1.tr B2
  clear HH
  go_wp2_with fail
  rw [← hW2]
  clear hW2
  obtain ⟨fb, Hfb⟩ : ∃ fb, Hid (w1.heap.size + 1 = fb) := ⟨_, rfl⟩
  obtain ⟨g0, Hg0⟩ : ∃ g0, Hid (w1.heap.size = g0) := ⟨_, rfl⟩
  rw [show w1.heap.size + 1 = fb from Hfb.out]
  rw [show w1.heap.size = g0 from Hg0.out]
  rw [Hfb.out] at n0 n1 f0 f1
  have hfb1 : w.heap.size ≤ fb := by have := B1.size; have := Hfb.out; omega
  have hfb2 : fb < W2.heap.size := by have := Hfb.out; omega
  have hwl : w.heap.size < fb := by have := World.block_lt_of_cell? W2 _ k0; have := B0.size; have h3 : w.heap.size < w1.heap.size := Nat.lt_of_lt_of_le (World.block_lt_of_cell? _ _ (show W0.cell? ⟨w.heap.size, 0, none⟩ = some (.int .i64 h) by assumption)) hb1.size; have := Hfb.out; omega
  clear k0a k1a
  have hgf : g0 < fb := by have := Hg0.out; have := Hfb.out; omega
  have hr0 : seqS h X 0 = grR X := rfl
  have HRL := Lib.hid (fun k => R.brlen (k := k))
  go_loopw [4, 13] (fun out i wr => ∃ k : Nat, k ≤ X.length ∧ i = .int .i64 k ∧ ((k = 0 ∧ out = .slice (some ⟨g0, 0, none⟩) 0 0) ∨ (0 < k ∧ OwnGG (fb + 1) wr.heap.size wr out (brTo h X k))) ∧ wr.cell? ⟨fb, 0, none⟩ = some (.int .i64 h) ∧ wr.cell? ⟨fb, 1, none⟩ = some (.int .i64 (seqS h X k)) ∧ wr.frozen? ⟨fb, 0, none⟩ = false ∧ wr.frozen? ⟨fb, 1, none⟩ = false ∧ Below fb W2 wr) (fun _ i _ => X.length - (intOf i).toNat)
  case atStart => exact ⟨0, by omega, rfl, Or.inl ⟨rfl, rfl⟩, n0, by rw [hr0]; exact n1, f0, f1, ⟨rfl, rfl, rfl, Nat.le_refl _, fun _ _ => rfl⟩⟩
  case round =>
    clear n0 n1 f0 f1 hr0
    obtain ⟨k, hk, rfl, hout, n0, n1, f0, f1, hb⟩ := hrel
    have hsz := hb.size
    have k0 : wr.cell? ⟨w.heap.size, 0, none⟩ = some (.int .i64 h) := (hb.cell (p := ⟨w.heap.size, 0, none⟩) hwl).trans k0
    have k1 : wr.cell? ⟨w.heap.size, 1, none⟩ = some (.slice a1 X.length cap1) := (hb.cell (p := ⟨w.heap.size, 1, none⟩) hwl).trans k1
    have BWr : Below w.heap.size w wr := BW2.trans (hb.mono hfb1)
    by_cases hlt : k < X.length
    · have HQ := Lib.hid (seq_succ (h := h) hlt)
      have HM0 := Lib.hid (R.sq k)
      have HM1 := Lib.hid (R.sq (k + 1))
      have HBR : Hid (shortL h (seqS h X k) (seqS h X (k + 1)) = brAt h X k) := rfl
      have HST := Lib.hid (brTo_succ h X k)
      have HLN := Lib.hid (brTo_len h X k)
      have hrl := HRL.out k
      have hhh := R.hh
      obtain ⟨wo, rfl⟩ : ∃ wo : World, wo = wr := ⟨_, rfl⟩
      go_wp2_with fail
      refine (c_impl_Routine_stateAt X h k _ _ (HRW.out.below BWr) R hlt).mono ?_; rintro e w3 ⟨rfl, hb3⟩
      rw [← HQ.out]
      obtain ⟨s0, Hs0⟩ : ∃ s0, Hid (seqS h X k = s0) := ⟨_, rfl⟩
      obtain ⟨s1, Hs1⟩ : ∃ s1, Hid (seqS h X (k + 1) = s1) := ⟨_, rfl⟩
      rw [Hs0.out] at HM0 HBR n1
      rw [Hs1.out] at HM1 HBR ⊢
      have n0 := keepc hb3 n0
      have n1 := keepc hb3 n1
      have f0 := frozenc hb3 (by assumption) f0
      have f1 := frozenc hb3 (by assumption) f1
      have m0 := al_c (Obj.cells #[Value.int IntKind.i64 h, Value.int IntKind.i64 s1] 25) n0
      have m1 := al_c (Obj.cells #[Value.int IntKind.i64 h, Value.int IntKind.i64 s1] 25) n1
      have t0 : (w3.alloc (Obj.cells #[Value.int IntKind.i64 h, Value.int IntKind.i64 s1] 25)).cell? ⟨w3.heap.size, 0, none⟩ = some (.int .i64 h) := World.cell?_alloc_at _ _ _ _ rfl
      have t1 : (w3.alloc (Obj.cells #[Value.int IntKind.i64 h, Value.int IntKind.i64 s1] 25)).cell? ⟨w3.heap.size, 1, none⟩ = some (.int .i64 s1) := World.cell?_alloc_at _ _ _ _ rfl
      have B4 : Below wo.heap.size wo (w3.alloc (Obj.cells #[Value.int IntKind.i64 h, Value.int IntKind.i64 s1] 25)) := hb3.al _
      have g0' := al_f (Obj.cells #[Value.int IntKind.i64 h, Value.int IntKind.i64 s1] 25) n0 f0
      have g1' := al_f (Obj.cells #[Value.int IntKind.i64 h, Value.int IntKind.i64 s1] 25) n1 f1
      go_wp2_with fail
      generalize (w3.alloc (Obj.cells #[Value.int IntKind.i64 h, Value.int IntKind.i64 s1] 25)) = W4 at *
      have hs3 := hb3.size
      obtain ⟨tb, Htb⟩ : ∃ tb, Hid (w3.heap.size = tb) := ⟨_, rfl⟩
      rw [show w3.heap.size = tb from Htb.out]
      rw [Htb.out] at t0 t1 hs3
      refine (c_impl_shortest (headN X) h s0 s1 _ hhh HM0.out HM1.out).mono ?_; rintro e w5 ⟨u5, rfl, ho5, hb5⟩
      rw [HBR.out] at ho5
      have m0 := keepc hb5 m0
      have m1 := keepc hb5 m1
      have t0 := keepc hb5 t0
      have t1 := keepc hb5 t1
      have g0' := frozenc hb5 (by assumption) g0'
      have g1' := frozenc hb5 (by assumption) g1'
      have hs4 := B4.size
      have hs5 := hb5.size
      have hfbl : fb < wo.heap.size := World.block_lt_of_cell? wo _ (by assumption)
      have htbl : tb < w5.heap.size := World.block_lt_of_cell? w5 _ t0
      have hlt5 := World.ownsRow.lt ho5
      have hone := OwnI.one ho5
      have B5 : Below fb W2 w5 := (hb.trans (B4.mono (by omega))).trans (hb5.mono (by omega))
      have B45 := B4.tr hb5
      have hrr := ho5.rd
      obtain ⟨ar, capr, rfl, -, -⟩ := hrr
      rcases hout with ⟨hk0, hout⟩ | ⟨hk0, hout⟩
      · subst hout
        have HK0 := Lib.hid hk0
        clear hk0
        go_wp2_with (at_builtin; (refine push_g0 rfl _ _ _ rfl Tryz.underlying66 infoG1 g0 _ _ _ (fb + 1) rfl rfl (by exact ho5.base (by omega)) hone (by omega) ?_; intro v' w9 hG9 hb9; have z0 := keepc hb9 m0; have z1 := keepc hb9 m1; have y0 := keepc hb9 t0; have y1 := keepc hb9 t1; have zf0 := frozenc hb9 m0 g0'; have zf1 := frozenc hb9 m1 g1'; have B9 : Below fb W2 w9 := B5.trans (hb9.mono (by omega)); refine stop_of ?_))
        unfold Stopped
        have e0 : brTo h X (k + 1) = [brAt h X k] := by rw [HST.out, HK0.out]; rfl
        rw [← e0] at hG9
        obtain ⟨Y0, Y1, hF1, hg1⟩ := set2 w9 fb (.int .i64 h) (.int .i64 s1) _ _ z0 z1
        have F0 : ((w9.setCell ⟨fb, 0, none⟩ (.int .i64 h)).setCell ⟨fb, 1, none⟩ (.int .i64 s1)).frozen? ⟨fb, 0, none⟩ = false := by rw [hF1]; exact zf0
        have F1 : ((w9.setCell ⟨fb, 0, none⟩ (.int .i64 h)).setCell ⟨fb, 1, none⟩ (.int .i64 s1)).frozen? ⟨fb, 1, none⟩ = false := by rw [hF1]; exact zf1
        have HG9 := Lib.hid ((hG9.grown hg1 (fun k hk => by simp only [Option.some.injEq] at hk; omega)).tight)
        have B10 : Below fb W2 ((w9.setCell ⟨fb, 0, none⟩ (.int .i64 h)).setCell ⟨fb, 1, none⟩ (.int .i64 s1)) := (B9.setCell (p := ⟨fb, 0, none⟩) (Nat.le_refl _) _).setCell (p := ⟨fb, 1, none⟩) (Nat.le_refl _) _
        clear hG9
        go_wp2_with fail
        generalize ((w9.setCell ⟨fb, 0, none⟩ (.int .i64 h)).setCell ⟨fb, 1, none⟩ (.int .i64 s1)) = w10 at *
        go_roundw
        case rel => exact ⟨k + 1, by omega, by go_num, Or.inr ⟨by omega, HG9.out⟩, Y0, by rw [Hs1.out]; exact Y1, F0, F1, B10⟩
        case measure => simp [intOf]; omega
      · have hout5 := hout.below B45
        have hll : (brTo h X k).length < 1000000000 := by rw [HLN.out]; omega
        have hglt := OwnG.lt hout
        go_wp2_with (at_builtin; refine push_g rfl _ _ _ rfl Tryz.underlying66 infoG1 _ _ _ _ _ rfl rfl (by exact hout5) (by exact ho5.base (by omega)) (fun b hb => by have := (hlt5 b hb).1; omega) hone hll (by omega) ?_; intro v' w9 hG9 hg9 hat9 hs9; refine stop_of ?_)
        unfold Stopped
        have z0 := grown_c hg9 m0 (fun e => by have := hglt _ e; omega)
        have z1 := grown_c hg9 m1 (fun e => by have := hglt _ e; omega)
        have y0 := grown_c hg9 t0 (fun e => by have := hglt _ e; omega)
        have y1 := grown_c hg9 t1 (fun e => by have := hglt _ e; omega)
        have zf0 := grown_f hg9 m0 g0' (fun e => by have := hglt _ e; omega)
        have zf1 := grown_f hg9 m1 g1' (fun e => by have := hglt _ e; omega)
        have B9 : Below fb W2 w9 := B5.grown hg9 (by omega) (fun q hq => by have := (hglt q hq).1; omega)
        rw [← HST.out] at hG9
        obtain ⟨Y0, Y1, hF1, hg1⟩ := set2 w9 fb (.int .i64 h) (.int .i64 s1) _ _ z0 z1
        have F0 : ((w9.setCell ⟨fb, 0, none⟩ (.int .i64 h)).setCell ⟨fb, 1, none⟩ (.int .i64 s1)).frozen? ⟨fb, 0, none⟩ = false := by rw [hF1]; exact zf0
        have F1 : ((w9.setCell ⟨fb, 0, none⟩ (.int .i64 h)).setCell ⟨fb, 1, none⟩ (.int .i64 s1)).frozen? ⟨fb, 1, none⟩ = false := by rw [hF1]; exact zf1
        have HG9 := Lib.hid ((hG9.grown hg1 (fun k hk => by simp only [Option.some.injEq] at hk; omega)).tight)
        have B10 : Below fb W2 ((w9.setCell ⟨fb, 0, none⟩ (.int .i64 h)).setCell ⟨fb, 1, none⟩ (.int .i64 s1)) := (B9.setCell (p := ⟨fb, 0, none⟩) (Nat.le_refl _) _).setCell (p := ⟨fb, 1, none⟩) (Nat.le_refl _) _
        clear hG9
        go_wp2_with fail
        generalize ((w9.setCell ⟨fb, 0, none⟩ (.int .i64 h)).setCell ⟨fb, 1, none⟩ (.int .i64 s1)) = w10 at *
        go_roundw
        case rel => exact ⟨k + 1, by omega, by go_num, Or.inr ⟨by omega, HG9.out⟩, Y0, by rw [Hs1.out]; exact Y1, F0, F1, B10⟩
        case measure => simp [intOf]; omega
    · obtain rfl : k = X.length := by omega
      rcases hout with ⟨h1, _⟩ | ⟨-, hout⟩
      · exact absurd h1 (by omega)
      have HQ := Lib.hid (seq_last h X)
      have HM0 := Lib.hid (R.sq X.length)
      have HM1 := Lib.hid (R.gr)
      have HBR : Hid (shortL h (seqS h X X.length) (grR X) = brAt h X X.length) := by unfold Hid brAt; rw [seq_last]
      have HST := Lib.hid (brTo_succ h X X.length)
      have HLN := Lib.hid (brTo_len h X X.length)
      have hhh := R.hh
      obtain ⟨s0, Hs0⟩ : ∃ s0, Hid (seqS h X X.length = s0) := ⟨_, rfl⟩
      rw [Hs0.out] at HM0 HBR n1
      have hfbl : fb < wr.heap.size := World.block_lt_of_cell? wr _ n0
      have hwbl : w.heap.size < wr.heap.size := by omega
      obtain ⟨gz, nz, cz, hvz, -, -, -, -, hgz, -⟩ := hout.shape (fun e => by have := congrArg List.length e; rw [HLN.out, List.length_nil] at this; omega)
      subst hvz
      go_wp2_with fail
      refine wp_region_noPanic ?_
      refine wp_region_held_drew (S := fun w' => w'.cell? ⟨fb, 0, none⟩ = some (.int .i64 h) ∧ w'.cell? ⟨fb, 1, none⟩ = some (.int .i64 s0) ∧ w'.cell? ⟨w.heap.size, 0, none⟩ = some (.int .i64 h) ∧ w'.cell? ⟨w.heap.size, 1, none⟩ = some (.slice a1 X.length cap1)) (by kernel_rfl) ?_ (fun hHeld => ?_)
      · exact ⟨n0, n1, k0, k1⟩
      (refine wpAnyH_take (i := 0) (v := ?tv1) rfl (by kernel_rfl) (by kernel_rfl) (by kernel_rfl) (fun _ _ _ h => h) (Or.inl ⟨by rfl, ?thy1⟩) (by assumption) ?trest1; case thy1 => (intro w hSw; (try dsimp only at hSw); go_simp; (try with_reducible rfl)); (try simp only [Act.put, List.getElem_toArray, List.getElem_cons_zero, List.getElem_cons_succ, List.setIfInBounds_toArray, List.set_cons_zero, List.set_cons_succ])); (refine wpAnyH_take (i := 1) (v := ?tv2) rfl (by kernel_rfl) (by kernel_rfl) (by kernel_rfl) (fun _ _ _ h => h) (Or.inl ⟨by rfl, ?thy2⟩) (by assumption) ?trest2; case thy2 => (intro w hSw; (try dsimp only at hSw); go_simp; (try with_reducible rfl)); (try simp only [Act.put, List.getElem_toArray, List.getElem_cons_zero, List.getElem_cons_succ, List.setIfInBounds_toArray, List.set_cons_zero, List.set_cons_succ])); (refine wpAnyH_take (i := 2) (v := ?tv3) rfl (by kernel_rfl) (by kernel_rfl) (by kernel_rfl) (fun _ _ _ h => h) (Or.inl ⟨by rfl, ?thy3⟩) (by assumption) ?trest3; case thy3 => (intro w hSw; (try dsimp only at hSw); go_simp; (try with_reducible rfl)); (try simp only [Act.put, List.getElem_toArray, List.getElem_cons_zero, List.getElem_cons_succ, List.setIfInBounds_toArray, List.set_cons_zero, List.set_cons_succ]))
      refine wpAnyH_ready (rs := [3]) (by kernel_rfl) (by simp) ?_; refine AllReadyH.cons (i := 3) rfl (fun K hK => ?_) AllReadyH.nil
      go_simp
      refine (c_impl_Routine_first X h _ _ (HRW.out.below (BWr.dr)) R).mono ?_; rintro e w5 ⟨rfl, hb5⟩
      have hb5 := below_drew hb5
      refine hK.out _ _ ⟨keepc hb5 n0, keepc hb5 n1, keepc hb5 k0, keepc hb5 k1⟩ (fun hHeld => ?_)
      clear hK K
      (try simp only [Act.put, List.getElem_toArray, List.getElem_cons_zero, List.getElem_cons_succ, List.setIfInBounds_toArray, List.set_cons_zero, List.set_cons_succ])
      refine wpAnyH_ready (rs := [4]) (by kernel_rfl) (by simp) ?_; refine AllReadyH.cons (i := 4) rfl (fun K hK => ?_) AllReadyH.nil
      go_simp
      refine (c_impl_shortest (headN X) h s0 (grR X) _ hhh HM0.out HM1.out).mono ?_; rintro e w6 ⟨u6, rfl, ho6, hb6⟩
      rw [HBR.out] at ho6
      have B6 := hb5.tr hb6
      have q0 := keepc B6 n0
      have q1 := keepc B6 n1
      have q2 := keepc B6 k0
      have q3 := keepc B6 k1
      refine hK.out _ _ ⟨q0, q1, q2, q3⟩ (fun hHeld => ?_)
      clear hK K
      (try simp only [Act.put, List.getElem_toArray, List.getElem_cons_zero, List.getElem_cons_succ, List.setIfInBounds_toArray, List.set_cons_zero, List.set_cons_succ])
      have hone := OwnI.one ho6
      have hlt6 := World.ownsRow.lt ho6
      have hrr := ho6.rd
      obtain ⟨ar, capr, rfl, -, -⟩ := hrr
      have hs5 := hb5.size
      have hs6 := hb6.size
      have hout6 := hout.below B6
      have hglt := OwnG.lt hout
      refine wpAnyH_ready (rs := [5]) (by kernel_rfl) (by simp) ?_; refine AllReadyH.cons (i := 5) rfl (fun K hK => ?_) AllReadyH.nil
      go_simp
      refine hK.out _ _ ⟨al_c _ q0, al_c _ q1, al_c _ q2, al_c _ q3⟩ (fun hHeld => ?_)
      clear hK K
      (try simp only [Act.put, List.getElem_toArray, List.getElem_cons_zero, List.getElem_cons_succ, List.setIfInBounds_toArray, List.set_cons_zero, List.set_cons_succ])
      refine wpAnyH_ready (rs := [6]) (by kernel_rfl) (by simp) ?_; refine AllReadyH.cons (i := 6) rfl (fun K hK => ?_) AllReadyH.nil
      refine step_push_g rfl _ _ _ rfl Tryz.underlying66 infoG1 _ _ _ _ w6 rfl rfl (by exact hout6) (by exact ho6.base (by omega)) (fun b hb => by have := (hlt6 b hb).1; omega) hone (by rw [HLN.out]; omega) (by omega) ?_
      intro v' w9 hG9 hg9 hat9 hs9
      rw [← HST.out] at hG9
      have B9 : Below fb W2 w9 := ((hb.trans (B6.mono (by omega))).grown hg9 (by omega) (fun q hq => by have := (hglt q hq).1; omega))
      refine hK.out _ _ ⟨grown_c hg9 q0 (fun e => by have := hglt _ e; omega), grown_c hg9 q1 (fun e => by have := hglt _ e; omega), grown_c hg9 q2 (fun e => by have := hglt _ e; omega), grown_c hg9 q3 (fun e => by have := hglt _ e; omega)⟩ (fun hHeld => ?_)
      clear hK K
      (try simp only [Act.put, List.getElem_toArray, List.getElem_cons_zero, List.getElem_cons_succ, List.setIfInBounds_toArray, List.set_cons_zero, List.set_cons_succ])
      (refine wpAnyH_take (i := 7) (v := ?tv4) rfl (by kernel_rfl) (by kernel_rfl) (by kernel_rfl) (fun _ _ _ h => h) (Or.inl ⟨by rfl, ?thy4⟩) (by assumption) ?trest4; case thy4 => (intro w hSw; (try dsimp only at hSw); go_simp; (try with_reducible rfl)); (try simp only [Act.put, List.getElem_toArray, List.getElem_cons_zero, List.getElem_cons_succ, List.setIfInBounds_toArray, List.set_cons_zero, List.set_cons_succ]))
      refine wpAnyH_done (by kernel_rfl) ?_ _
      refine NoPanic.normal ?_
      have HG9 : Hid (OwnGG (fb + 1) w9.heap.size w9 v' (brR h X)) := hG9
      clear hG9
      go_wp2
      go_ret
      exact ⟨_, rfl, HG9.out.wide (by omega) (Nat.le_refl _), BW2.trans (B9.mono hfb1)⟩
end Go.Proofs.YtioemkdapoombaaGreatDoor
namespace Go.Proofs.YtioemkdapoombaaGreatDoor
open Go.ChangeShapes Go.WideShapes Go.ChangeAt Go.RowKit
set_option linter.unusedVariables false
set_option linter.unusedSimpArgs false
theorem RdP.part {w : World} {a : Option Addr} {n cap : Nat} {X : List Part2} (h : RdP w (.slice a n cap) X) (k : Nat) (hk : k < X.length) : ∃ b off u, a = some ⟨b, off, none⟩ ∧ w.cell? ⟨b, off + k * 2, none⟩ = some u ∧ w.cell? ⟨b, off + k * 2 + 1, none⟩ = some (.int .i64 (timR X k)) ∧ RdI w u (patR X k) := by
  obtain ⟨a', cap', he, _, hc⟩ := h
  cases he
  obtain ⟨b, off, u, ha, x0, x1, hu⟩ := hc k hk
  exact ⟨b, off, u, ha, x0, by rw [timR_at hk]; exact x1, by rw [patR_at hk]; exact hu⟩
set_option maxHeartbeats 8000000 in
set_option maxRecDepth 100000 in
theorem c_spec_l19Bridges (X : List Part2) (h : Int) (v : Value) (g : Nat) (w : World) (hr : RdP w v X) (R : RoutOk h X) (k0 : w.cell? ⟨g, 0, none⟩ = some (.int .i64 h)) (k1 : w.cell? ⟨g, 1, none⟩ = some v) :
    Calls Tryz.prog 50 #[.pointer (some ⟨g, 0, none⟩)] w fun e w' => ∃ u, e = .returned u ∧ OwnGG w.heap.size w'.heap.size w' u (brR h X) ∧ Below w.heap.size w w' := by
  have hr' := hr
  obtain ⟨a1, cap1, rfl, hl1, -⟩ := hr'
  have HRW := Lib.hid hr
  have HK0 := Lib.hid k0
  have HK1 := Lib.hid k1
  have hgw : g < w.heap.size := World.block_lt_of_cell? w _ k0
  have hxl := R.hl
  have h0 : 0 < X.length := by omega
  obtain ⟨b1, o1, u0, rfl, x0, -, hu0⟩ := hr.part 0 h0
  have x0 : w.cell? ⟨b1, o1, none⟩ = some u0 := by simpa using x0
  have hbw : b1 < w.heap.size := World.block_lt_of_cell? w _ x0
  clear hr
  have HEN : Hid (entryL (patR X 0) h = brAt h X 0) := R.entry
  have hin : (0 : Int) < (X.length : Int) := by omega
  have hw0 : ((w.alloc (Obj.cells #[] 26))).heap.size = w.heap.size + 1 := World.size_alloc _ _
  have hG0 : OwnGG w.heap.size (w.heap.size + 1) (w.alloc (Obj.cells #[] 26)) (.slice (some ⟨w.heap.size, 0, none⟩) 0 0) [] := OwnG.made rfl (Nat.le_refl _)
  have B0 : Below w.heap.size w (w.alloc (Obj.cells #[] 26)) := (Below.refl _ _).al _
  have k0a := al_c (Obj.cells #[] 26) k0
  have k1a := al_c (Obj.cells #[] 26) k1
  have x0a := al_c (Obj.cells #[] 26) x0
  go_enter Tryz.func50, Tryz.ntmps50
  go_wp2_with fail
  go_region_held3 (fun w' => w'.cell? ⟨g, 0, none⟩ = some (.int .i64 h) ∧ w'.cell? ⟨g, 1, none⟩ = some (.slice (some ⟨b1, o1, none⟩) X.length cap1) ∧ w'.cell? ⟨b1, o1, none⟩ = some u0)
    (go_keep)
    ((go_at_call 88; refine (c_spec_EntryOf (patR X 0) h _ _ ((hu0.below B0).below ((Below.refl _ _).dr))).mono ?_; rintro e w2 ⟨u2, rfl, ho2, hb2⟩; have hb2' := below_drew hb2; have q0 := keepc hb2' k0a; have q1 := keepc hb2' k1a; have q2 := keepc hb2' x0a))
  rw [HEN.out, show (w.alloc (Obj.cells #[] 26)).drew.heap.size = w.heap.size + 1 from hw0] at ho2
  have hG2 := hG0.below hb2'
  have B2 := B0.tr hb2'
  have hone := OwnI.one ho2
  have hlt2 := World.ownsRow.lt ho2
  have hrr := ho2.rd
  obtain ⟨ar, capr, rfl, -, -⟩ := hrr
  have hs2 := hb2'.size
  rw [hw0] at hs2
  clear k0 k1 x0 k0a k1a x0a hG0
  have hbr1 : Hid (brTo h X 1 = [] ++ [brAt h X 0]) := by unfold Hid; rw [brTo_succ]; rfl
  go_wp2_with (at_builtin; refine push_g rfl _ _ _ rfl Tryz.underlying66 infoG1 _ _ _ _ w2 rfl rfl (by exact hG2) (by exact ho2.base (by omega)) (fun b hb => (hlt2 b hb).1) hone (by simp) (by omega) ?_; intro v9 w9 hG9 hg9 hat9 hs9; refine stop_of ?_)
  unfold Stopped
  rw [← hbr1.out] at hG9
  have hgl := fun k (hk : Value.ownBlock (.slice (some ⟨w.heap.size, 0, none⟩) 0 0) = some k) => (OwnG.lt hG2 k hk)
  have B9 : Below w.heap.size w w9 := B2.grown hg9 (by omega) (fun q hq => (hgl q hq).1)
  have k0 : w9.cell? ⟨g, 0, none⟩ = some (.int .i64 h) := grown_c hg9 q0 (fun e => by have := (hgl _ e).1; omega)
  have k1 : w9.cell? ⟨g, 1, none⟩ = some (.slice (some ⟨b1, o1, none⟩) X.length cap1) := grown_c hg9 q1 (fun e => by have := (hgl _ e).1; omega)
  have HG9 : Hid (OwnGG w.heap.size w9.heap.size w9 v9 (brTo h X 1)) := hG9
  clear hG9 q0 q1 q2 hG2 ho2 hlt2 hone hgl hg9 hat9
  have HRL := Lib.hid (fun k => R.brlen (k := k))
  have HST := Lib.hid (fun k => brTo_succ h X k)
  have HLN := Lib.hid (fun k => brTo_len h X k)
  go_wp2_with fail
  go_loopw [3, 7] (fun out i wr => ∃ k : Nat, 1 ≤ k ∧ k ≤ X.length ∧ i = .int .i64 k ∧ OwnGG w.heap.size wr.heap.size wr out (brTo h X k) ∧ Below w.heap.size w wr) (fun _ i _ => X.length - (intOf i).toNat)
  case atStart => exact ⟨1, by omega, by omega, rfl, HG9.out, B9⟩
  case round =>
    clear HG9
    obtain ⟨k, hk1, hk, rfl, hout, hb⟩ := hrel
    have k0 : wr.cell? ⟨g, 0, none⟩ = some (.int .i64 h) := (hb.cell (p := ⟨g, 0, none⟩) hgw).trans HK0.out
    have k1 : wr.cell? ⟨g, 1, none⟩ = some (.slice (some ⟨b1, o1, none⟩) X.length cap1) := (hb.cell (p := ⟨g, 1, none⟩) hgw).trans HK1.out
    obtain ⟨wo, rfl⟩ : ∃ wo : World, wo = wr := ⟨_, rfl⟩
    have hglt := OwnG.lt hout
    have hbs := hb.size
    obtain ⟨gz, nz, cz, hvz, -, -, -, -, hgz, -⟩ := hout.shape (fun e => by have := congrArg List.length e; rw [HLN.out, List.length_nil] at this; omega)
    subst hvz
    by_cases hlt : k < X.length
    · obtain ⟨j, rfl⟩ : ∃ j, k = j + 1 := ⟨k - 1, by omega⟩
      obtain ⟨b2, o2, ua, he, x0, -, hua⟩ := HRW.out.part j (by omega)
      cases he
      obtain ⟨b3, o3, ub, he, y0, -, hub⟩ := HRW.out.part (j + 1) hlt
      cases he
      have HX0 := Lib.hid x0
      have HY0 := Lib.hid y0
      have x0 : wo.cell? ⟨b1, o1 + j * 2, none⟩ = some ua := (hb.cell (p := ⟨b1, o1 + j * 2, none⟩) hbw).trans x0
      have y0 : wo.cell? ⟨b1, o1 + (j + 1) * 2, none⟩ = some ub := (hb.cell (p := ⟨b1, o1 + (j + 1) * 2, none⟩) hbw).trans y0
      have hua := hua.below hb
      have hub := hub.below hb
      have hbc := R.br (show j < X.length by omega) hlt
      have HMI := Lib.hid (R.mid hlt)
      have hj0 : (0 : Int) ≤ ((j + 1 : Nat) : Int) - 1 := by omega
      have hj1 : ((j + 1 : Nat) : Int) - 1 < (X.length : Int) := by omega
      have hj2 : (0 : Int) ≤ ((j + 1 : Nat) : Int) := by omega
      have hj3 : ((j + 1 : Nat) : Int) < (X.length : Int) := by omega
      have hq0 : (0 : Int) ≤ (j : Int) := by omega
      have hq1 : (j : Int) < (X.length : Int) := by omega
      have hq2 : (0 : Int) ≤ (j : Int) + 1 := by omega
      have hq3 : (j : Int) + 1 < (X.length : Int) := by omega
      have hwj : IntKind.i64.wrap (j : Int) = (j : Int) := wraps_i64 _ (by omega) (by omega)
      clear hj0 hj1 hj2 hj3
      go_wp2_with fail
      refine wp_region_noPanic ?_
      refine wp_region_held_drew (S := fun w' => w'.cell? ⟨g, 0, none⟩ = some (.int .i64 h) ∧ w'.cell? ⟨g, 1, none⟩ = some (.slice (some ⟨b1, o1, none⟩) X.length cap1) ∧ w'.cell? ⟨b1, o1 + j * 2, none⟩ = some ua ∧ w'.cell? ⟨b1, o1 + (j + 1) * 2, none⟩ = some ub) (by kernel_rfl) ?_ (fun hHeld => ?_)
      · exact ⟨k0, k1, x0, y0⟩
      (refine wpAnyH_take (i := 0) (v := ?tv5) rfl (by kernel_rfl) (by kernel_rfl) (by kernel_rfl) (fun _ _ _ h => h) (Or.inl ⟨by rfl, ?thy5⟩) (by assumption) ?trest5; case thy5 => (intro w hSw; (try dsimp only at hSw); go_simp; (try with_reducible rfl)); (try simp only [Act.put, List.getElem_toArray, List.getElem_cons_zero, List.getElem_cons_succ, List.setIfInBounds_toArray, List.set_cons_zero, List.set_cons_succ])); (refine wpAnyH_take (i := 1) (v := ?tv6) rfl (by kernel_rfl) (by kernel_rfl) (by kernel_rfl) (fun _ _ _ h => h) (Or.inl ⟨by rfl, ?thy6⟩) (by assumption) ?trest6; case thy6 => (intro w hSw; (try dsimp only at hSw); go_simp; (try with_reducible rfl)); (try simp only [Act.put, List.getElem_toArray, List.getElem_cons_zero, List.getElem_cons_succ, List.setIfInBounds_toArray, List.set_cons_zero, List.set_cons_succ])); (refine wpAnyH_take (i := 2) (v := ?tv7) rfl (by kernel_rfl) (by kernel_rfl) (by kernel_rfl) (fun _ _ _ h => h) (Or.inl ⟨by rfl, ?thy7⟩) (by assumption) ?trest7; case thy7 => (intro w hSw; (try dsimp only at hSw); go_simp; (try with_reducible rfl)); (try simp only [Act.put, List.getElem_toArray, List.getElem_cons_zero, List.getElem_cons_succ, List.setIfInBounds_toArray, List.set_cons_zero, List.set_cons_succ])); (refine wpAnyH_take (i := 3) (v := ?tv8) rfl (by kernel_rfl) (by kernel_rfl) (by kernel_rfl) (fun _ _ _ h => h) (Or.inl ⟨by rfl, ?thy8⟩) (by assumption) ?trest8; case thy8 => (intro w hSw; (try dsimp only at hSw); go_simp; (try with_reducible rfl)); (try simp only [Act.put, List.getElem_toArray, List.getElem_cons_zero, List.getElem_cons_succ, List.setIfInBounds_toArray, List.set_cons_zero, List.set_cons_succ])); (refine wpAnyH_take (i := 4) (v := ?tv9) rfl (by kernel_rfl) (by kernel_rfl) (by kernel_rfl) (fun _ _ _ h => h) (Or.inl ⟨by rfl, ?thy9⟩) (by assumption) ?trest9; case thy9 => (intro w hSw; (try dsimp only at hSw); go_simp; (try with_reducible rfl)); (try simp only [Act.put, List.getElem_toArray, List.getElem_cons_zero, List.getElem_cons_succ, List.setIfInBounds_toArray, List.set_cons_zero, List.set_cons_succ])); (refine wpAnyH_take (i := 5) (v := ?tv10) rfl (by kernel_rfl) (by kernel_rfl) (by kernel_rfl) (fun _ _ _ h => h) (Or.inl ⟨by rfl, ?thy10⟩) (by assumption) ?trest10; case thy10 => (intro w hSw; (try dsimp only at hSw); go_simp; (try with_reducible rfl)); (try simp only [Act.put, List.getElem_toArray, List.getElem_cons_zero, List.getElem_cons_succ, List.setIfInBounds_toArray, List.set_cons_zero, List.set_cons_succ])); (refine wpAnyH_take (i := 6) (v := ?tv11) rfl (by kernel_rfl) (by kernel_rfl) (by kernel_rfl) (fun _ _ _ h => h) (Or.inl ⟨by rfl, ?thy11⟩) (by assumption) ?trest11; case thy11 => (intro w hSw; (try dsimp only at hSw); go_simp; (try with_reducible rfl)); (try simp only [Act.put, List.getElem_toArray, List.getElem_cons_zero, List.getElem_cons_succ, List.setIfInBounds_toArray, List.set_cons_zero, List.set_cons_succ])); (refine wpAnyH_take (i := 7) (v := ?tv12) rfl (by kernel_rfl) (by kernel_rfl) (by kernel_rfl) (fun _ _ _ h => h) (Or.inl ⟨by rfl, ?thy12⟩) (by assumption) ?trest12; case thy12 => (intro w hSw; (try dsimp only at hSw); go_simp; (try with_reducible rfl)); (try simp only [Act.put, List.getElem_toArray, List.getElem_cons_zero, List.getElem_cons_succ, List.setIfInBounds_toArray, List.set_cons_zero, List.set_cons_succ])); (refine wpAnyH_take (i := 8) (v := ?tv13) rfl (by kernel_rfl) (by kernel_rfl) (by kernel_rfl) (fun _ _ _ h => h) (Or.inl ⟨by rfl, ?thy13⟩) (by assumption) ?trest13; case thy13 => (intro w hSw; (try dsimp only at hSw); go_simp; (try with_reducible rfl)); (try simp only [Act.put, List.getElem_toArray, List.getElem_cons_zero, List.getElem_cons_succ, List.setIfInBounds_toArray, List.set_cons_zero, List.set_cons_succ])); (refine wpAnyH_take (i := 9) (v := ?tv14) rfl (by kernel_rfl) (by kernel_rfl) (by kernel_rfl) (fun _ _ _ h => h) (Or.inl ⟨by rfl, ?thy14⟩) (by assumption) ?trest14; case thy14 => (intro w hSw; (try dsimp only at hSw); go_simp; (try with_reducible rfl)); (try simp only [Act.put, List.getElem_toArray, List.getElem_cons_zero, List.getElem_cons_succ, List.setIfInBounds_toArray, List.set_cons_zero, List.set_cons_succ])); (refine wpAnyH_take (i := 10) (v := ?tv15) rfl (by kernel_rfl) (by kernel_rfl) (by kernel_rfl) (fun _ _ _ h => h) (Or.inl ⟨by rfl, ?thy15⟩) (by assumption) ?trest15; case thy15 => (intro w hSw; (try dsimp only at hSw); go_simp; (try with_reducible rfl)); (try simp only [Act.put, List.getElem_toArray, List.getElem_cons_zero, List.getElem_cons_succ, List.setIfInBounds_toArray, List.set_cons_zero, List.set_cons_succ])); (refine wpAnyH_take (i := 11) (v := ?tv16) rfl (by kernel_rfl) (by kernel_rfl) (by kernel_rfl) (fun _ _ _ h => h) (Or.inl ⟨by rfl, ?thy16⟩) (by assumption) ?trest16; case thy16 => (intro w hSw; (try dsimp only at hSw); go_simp; (try with_reducible rfl)); (try simp only [Act.put, List.getElem_toArray, List.getElem_cons_zero, List.getElem_cons_succ, List.setIfInBounds_toArray, List.set_cons_zero, List.set_cons_succ])); (refine wpAnyH_take (i := 12) (v := ?tv17) rfl (by kernel_rfl) (by kernel_rfl) (by kernel_rfl) (fun _ _ _ h => h) (Or.inl ⟨by rfl, ?thy17⟩) (by assumption) ?trest17; case thy17 => (intro w hSw; (try dsimp only at hSw); go_simp; (try with_reducible rfl)); (try simp only [Act.put, List.getElem_toArray, List.getElem_cons_zero, List.getElem_cons_succ, List.setIfInBounds_toArray, List.set_cons_zero, List.set_cons_succ])); (refine wpAnyH_take (i := 13) (v := ?tv18) rfl (by kernel_rfl) (by kernel_rfl) (by kernel_rfl) (fun _ _ _ h => h) (Or.inl ⟨by rfl, ?thy18⟩) (by assumption) ?trest18; case thy18 => (intro w hSw; (try dsimp only at hSw); go_simp; (try with_reducible rfl)); (try simp only [Act.put, List.getElem_toArray, List.getElem_cons_zero, List.getElem_cons_succ, List.setIfInBounds_toArray, List.set_cons_zero, List.set_cons_succ])); (refine wpAnyH_take (i := 14) (v := ?tv19) rfl (by kernel_rfl) (by kernel_rfl) (by kernel_rfl) (fun _ _ _ h => h) (Or.inl ⟨by rfl, ?thy19⟩) (by assumption) ?trest19; case thy19 => (intro w hSw; (try dsimp only at hSw); go_simp; (try with_reducible rfl)); (try simp only [Act.put, List.getElem_toArray, List.getElem_cons_zero, List.getElem_cons_succ, List.setIfInBounds_toArray, List.set_cons_zero, List.set_cons_succ])); (refine wpAnyH_take (i := 15) (v := ?tv20) rfl (by kernel_rfl) (by kernel_rfl) (by kernel_rfl) (fun _ _ _ h => h) (Or.inl ⟨by rfl, ?thy20⟩) (by assumption) ?trest20; case thy20 => (intro w hSw; (try dsimp only at hSw); go_simp; (try with_reducible rfl)); (try simp only [Act.put, List.getElem_toArray, List.getElem_cons_zero, List.getElem_cons_succ, List.setIfInBounds_toArray, List.set_cons_zero, List.set_cons_succ])); (refine wpAnyH_take (i := 16) (v := ?tv21) rfl (by kernel_rfl) (by kernel_rfl) (by kernel_rfl) (fun _ _ _ h => h) (Or.inl ⟨by rfl, ?thy21⟩) (by assumption) ?trest21; case thy21 => (intro w hSw; (try dsimp only at hSw); go_simp; (try with_reducible rfl)); (try simp only [Act.put, List.getElem_toArray, List.getElem_cons_zero, List.getElem_cons_succ, List.setIfInBounds_toArray, List.set_cons_zero, List.set_cons_succ])); (refine wpAnyH_take (i := 17) (v := ?tv22) rfl (by kernel_rfl) (by kernel_rfl) (by kernel_rfl) (fun _ _ _ h => h) (Or.inl ⟨by rfl, ?thy22⟩) (by assumption) ?trest22; case thy22 => (intro w hSw; (try dsimp only at hSw); go_simp; (try with_reducible rfl)); (try simp only [Act.put, List.getElem_toArray, List.getElem_cons_zero, List.getElem_cons_succ, List.setIfInBounds_toArray, List.set_cons_zero, List.set_cons_succ])); (refine wpAnyH_take (i := 18) (v := ?tv23) rfl (by kernel_rfl) (by kernel_rfl) (by kernel_rfl) (fun _ _ _ h => h) (Or.inl ⟨by rfl, ?thy23⟩) (by assumption) ?trest23; case thy23 => (intro w hSw; (try dsimp only at hSw); go_simp; (try with_reducible rfl)); (try simp only [Act.put, List.getElem_toArray, List.getElem_cons_zero, List.getElem_cons_succ, List.setIfInBounds_toArray, List.set_cons_zero, List.set_cons_succ])); (refine wpAnyH_take (i := 19) (v := ?tv24) rfl (by kernel_rfl) (by kernel_rfl) (by kernel_rfl) (fun _ _ _ h => h) (Or.inl ⟨by rfl, ?thy24⟩) (by assumption) ?trest24; case thy24 => (intro w hSw; (try dsimp only at hSw); go_simp; (try with_reducible rfl)); (try simp only [Act.put, List.getElem_toArray, List.getElem_cons_zero, List.getElem_cons_succ, List.setIfInBounds_toArray, List.set_cons_zero, List.set_cons_succ])); (refine wpAnyH_take (i := 20) (v := ?tv25) rfl (by kernel_rfl) (by kernel_rfl) (by kernel_rfl) (fun _ _ _ h => h) (Or.inl ⟨by rfl, ?thy25⟩) (by assumption) ?trest25; case thy25 => (intro w hSw; (try dsimp only at hSw); go_simp; (try with_reducible rfl)); (try simp only [Act.put, List.getElem_toArray, List.getElem_cons_zero, List.getElem_cons_succ, List.setIfInBounds_toArray, List.set_cons_zero, List.set_cons_succ])); (refine wpAnyH_take (i := 21) (v := ?tv26) rfl (by kernel_rfl) (by kernel_rfl) (by kernel_rfl) (fun _ _ _ h => h) (Or.inl ⟨by rfl, ?thy26⟩) (by assumption) ?trest26; case thy26 => (intro w hSw; (try dsimp only at hSw); go_simp; (try with_reducible rfl)); (try simp only [Act.put, List.getElem_toArray, List.getElem_cons_zero, List.getElem_cons_succ, List.setIfInBounds_toArray, List.set_cons_zero, List.set_cons_succ]))
      refine wpAnyH_ready (rs := [22]) (by kernel_rfl) (by simp) ?_; refine AllReadyH.cons (i := 22) rfl (fun K hK => ?_) AllReadyH.nil
      go_simp
      refine (c_spec_l10Bridge (patR X j) (patR X (j + 1)) h ua ub _ (hua.below ((Below.refl _ _).dr)) (hub.below ((Below.refl _ _).dr)) hbc).mono ?_; rintro e w6 ⟨u6, rfl, ho6, hb6⟩
      rw [HMI.out] at ho6
      have hb6 := below_drew hb6
      have q0 := keepc hb6 k0
      have q1 := keepc hb6 k1
      have q2 := keepc hb6 x0
      have q3 := keepc hb6 y0
      refine hK.out _ _ ⟨q0, q1, q2, q3⟩ (fun hHeld => ?_)
      clear hK K
      (try simp only [Act.put, List.getElem_toArray, List.getElem_cons_zero, List.getElem_cons_succ, List.setIfInBounds_toArray, List.set_cons_zero, List.set_cons_succ])
      have hone := OwnI.one ho6
      have hlt6 := World.ownsRow.lt ho6
      have hrr := ho6.rd
      obtain ⟨ar, capr, rfl, -, -⟩ := hrr
      have hs6 := hb6.size
      have hout6 := hout.below hb6
      refine wpAnyH_ready (rs := [23]) (by kernel_rfl) (by simp) ?_; refine AllReadyH.cons (i := 23) rfl (fun K hK => ?_) AllReadyH.nil
      go_simp
      refine hK.out _ _ ⟨al_c _ q0, al_c _ q1, al_c _ q2, al_c _ q3⟩ (fun hHeld => ?_)
      clear hK K
      (try simp only [Act.put, List.getElem_toArray, List.getElem_cons_zero, List.getElem_cons_succ, List.setIfInBounds_toArray, List.set_cons_zero, List.set_cons_succ])
      refine wpAnyH_ready (rs := [24]) (by kernel_rfl) (by simp) ?_; refine AllReadyH.cons (i := 24) rfl (fun K hK => ?_) AllReadyH.nil
      refine step_push_g rfl _ _ _ rfl Tryz.underlying66 infoG1 _ _ _ _ w6 rfl rfl (by exact hout6) (by exact ho6.base (by exact hbs)) (fun b hb => (hlt6 b hb).1) hone (by rw [HLN.out]; omega) (by omega) ?_
      intro v' w9 hG9 hg9 hat9 hs9
      rw [← HST.out] at hG9
      have B9 : Below w.heap.size w w9 := (hb.tr hb6).grown hg9 (by omega) (fun q hq => (hglt q hq).1)
      refine hK.out _ _ ⟨(B9.cell (p := ⟨g, 0, none⟩) hgw).trans HK0.out, (B9.cell (p := ⟨g, 1, none⟩) hgw).trans HK1.out, (B9.cell (p := ⟨b1, o1 + j * 2, none⟩) hbw).trans HX0.out, (B9.cell (p := ⟨b1, o1 + (j + 1) * 2, none⟩) hbw).trans HY0.out⟩ (fun hHeld => ?_)
      clear hK K
      (try simp only [Act.put, List.getElem_toArray, List.getElem_cons_zero, List.getElem_cons_succ, List.setIfInBounds_toArray, List.set_cons_zero, List.set_cons_succ])
      (refine wpAnyH_take (i := 25) (v := ?tv27) rfl (by kernel_rfl) (by kernel_rfl) (by kernel_rfl) (fun _ _ _ h => h) (Or.inl ⟨by rfl, ?thy27⟩) (by assumption) ?trest27; case thy27 => (intro w hSw; (try dsimp only at hSw); go_simp; (try with_reducible rfl)); (try simp only [Act.put, List.getElem_toArray, List.getElem_cons_zero, List.getElem_cons_succ, List.setIfInBounds_toArray, List.set_cons_zero, List.set_cons_succ]))
      refine wpAnyH_done (by kernel_rfl) ?_ _
      refine NoPanic.normal ?_
      have HG10 := Lib.hid hG9
      clear hG9
      go_wp2
      go_roundw
      case rel => exact ⟨j + 1 + 1, by omega, by omega, by go_num, HG10.out, B9⟩
      case measure => simp [intOf]; omega
    · obtain rfl : k = X.length := by omega
      obtain ⟨n1, hn1⟩ : ∃ n1, X.length = n1 + 1 := ⟨X.length - 1, by omega⟩
      obtain ⟨b2, o2, ua, he, x0, -, hua⟩ := HRW.out.part n1 (by omega)
      cases he
      have x0 : wo.cell? ⟨b1, o1 + n1 * 2, none⟩ = some ua := (hb.cell (p := ⟨b1, o1 + n1 * 2, none⟩) hbw).trans x0
      have hua := hua.below hb
      have HEX : Hid (exitL (patR X n1) h = brAt h X X.length) := by have := R.exit; rw [show X.length - 1 = n1 by omega] at this; exact this
      have hqe : IntKind.i64.wrap ((X.length : Int) - 1) = (n1 : Int) := by rw [show (X.length : Int) - 1 = (n1 : Int) by omega]; exact wraps_i64 _ (by omega) (by omega)
      have HN1 := Lib.hid hn1
      have hqe2 : wrap64 ((X.length : Int) - 1) = (n1 : Int) := by unfold wrap64; omega
      have hq2 : (0 : Int) ≤ (n1 : Int) := by omega
      have hq3 : (n1 : Int) < (X.length : Int) := by omega
      clear hn1
      go_wp2_with fail
      refine wp_region_noPanic ?_
      refine wp_region_held_drew (S := fun w' => w'.cell? ⟨g, 0, none⟩ = some (.int .i64 h) ∧ w'.cell? ⟨g, 1, none⟩ = some (.slice (some ⟨b1, o1, none⟩) X.length cap1) ∧ w'.cell? ⟨b1, o1 + n1 * 2, none⟩ = some ua) (by kernel_rfl) ?_ (fun hHeld => ?_)
      · exact ⟨k0, k1, x0⟩
      (refine wpAnyH_take (i := 0) (v := ?tv28) rfl (by kernel_rfl) (by kernel_rfl) (by kernel_rfl) (fun _ _ _ h => h) (Or.inl ⟨by rfl, ?thy28⟩) (by assumption) ?trest28; case thy28 => (intro w hSw; (try dsimp only at hSw); go_simp; (try with_reducible rfl)); (try simp only [Act.put, List.getElem_toArray, List.getElem_cons_zero, List.getElem_cons_succ, List.setIfInBounds_toArray, List.set_cons_zero, List.set_cons_succ])); (refine wpAnyH_take (i := 1) (v := ?tv29) rfl (by kernel_rfl) (by kernel_rfl) (by kernel_rfl) (fun _ _ _ h => h) (Or.inl ⟨by rfl, ?thy29⟩) (by assumption) ?trest29; case thy29 => (intro w hSw; (try dsimp only at hSw); go_simp; (try with_reducible rfl)); (try simp only [Act.put, List.getElem_toArray, List.getElem_cons_zero, List.getElem_cons_succ, List.setIfInBounds_toArray, List.set_cons_zero, List.set_cons_succ])); (refine wpAnyH_take (i := 2) (v := ?tv30) rfl (by kernel_rfl) (by kernel_rfl) (by kernel_rfl) (fun _ _ _ h => h) (Or.inl ⟨by rfl, ?thy30⟩) (by assumption) ?trest30; case thy30 => (intro w hSw; (try dsimp only at hSw); go_simp; (try with_reducible rfl)); (try simp only [Act.put, List.getElem_toArray, List.getElem_cons_zero, List.getElem_cons_succ, List.setIfInBounds_toArray, List.set_cons_zero, List.set_cons_succ])); (refine wpAnyH_take (i := 3) (v := ?tv31) rfl (by kernel_rfl) (by kernel_rfl) (by kernel_rfl) (fun _ _ _ h => h) (Or.inl ⟨by rfl, ?thy31⟩) (by assumption) ?trest31; case thy31 => (intro w hSw; (try dsimp only at hSw); go_simp; (try with_reducible rfl)); (try simp only [Act.put, List.getElem_toArray, List.getElem_cons_zero, List.getElem_cons_succ, List.setIfInBounds_toArray, List.set_cons_zero, List.set_cons_succ])); (refine wpAnyH_take (i := 4) (v := ?tv32) rfl (by kernel_rfl) (by kernel_rfl) (by kernel_rfl) (fun _ _ _ h => h) (Or.inl ⟨by rfl, ?thy32⟩) (by assumption) ?trest32; case thy32 => (intro w hSw; (try dsimp only at hSw); go_simp; (try with_reducible rfl)); (try simp only [Act.put, List.getElem_toArray, List.getElem_cons_zero, List.getElem_cons_succ, List.setIfInBounds_toArray, List.set_cons_zero, List.set_cons_succ])); (refine wpAnyH_take (i := 5) (v := ?tv33) rfl (by kernel_rfl) (by kernel_rfl) (by kernel_rfl) (fun _ _ _ h => h) (Or.inl ⟨by rfl, ?thy33⟩) (by assumption) ?trest33; case thy33 => (intro w hSw; (try dsimp only at hSw); go_simp; (try with_reducible rfl)); (try simp only [Act.put, List.getElem_toArray, List.getElem_cons_zero, List.getElem_cons_succ, List.setIfInBounds_toArray, List.set_cons_zero, List.set_cons_succ])); (refine wpAnyH_take (i := 6) (v := ?tv34) rfl (by kernel_rfl) (by kernel_rfl) (by kernel_rfl) (fun _ _ _ h => h) (Or.inl ⟨by rfl, ?thy34⟩) (by assumption) ?trest34; case thy34 => (intro w hSw; (try dsimp only at hSw); go_simp; (try with_reducible rfl)); (try simp only [Act.put, List.getElem_toArray, List.getElem_cons_zero, List.getElem_cons_succ, List.setIfInBounds_toArray, List.set_cons_zero, List.set_cons_succ])); (refine wpAnyH_take (i := 7) (v := ?tv35) rfl (by kernel_rfl) (by kernel_rfl) (by kernel_rfl) (fun _ _ _ h => h) (Or.inl ⟨by rfl, ?thy35⟩) (by assumption) ?trest35; case thy35 => (intro w hSw; (try dsimp only at hSw); go_simp; (try with_reducible rfl)); (try simp only [Act.put, List.getElem_toArray, List.getElem_cons_zero, List.getElem_cons_succ, List.setIfInBounds_toArray, List.set_cons_zero, List.set_cons_succ])); (refine wpAnyH_take (i := 8) (v := ?tv36) rfl (by kernel_rfl) (by kernel_rfl) (by kernel_rfl) (fun _ _ _ h => h) (Or.inl ⟨by rfl, ?thy36⟩) (by assumption) ?trest36; case thy36 => (intro w hSw; (try dsimp only at hSw); go_simp; (try with_reducible rfl)); (try simp only [Act.put, List.getElem_toArray, List.getElem_cons_zero, List.getElem_cons_succ, List.setIfInBounds_toArray, List.set_cons_zero, List.set_cons_succ])); (refine wpAnyH_take (i := 9) (v := ?tv37) rfl (by kernel_rfl) (by kernel_rfl) (by kernel_rfl) (fun _ _ _ h => h) (Or.inl ⟨by rfl, ?thy37⟩) (by assumption) ?trest37; case thy37 => (intro w hSw; (try dsimp only at hSw); go_simp; (try with_reducible rfl)); (try simp only [Act.put, List.getElem_toArray, List.getElem_cons_zero, List.getElem_cons_succ, List.setIfInBounds_toArray, List.set_cons_zero, List.set_cons_succ])); (refine wpAnyH_take (i := 10) (v := ?tv38) rfl (by kernel_rfl) (by kernel_rfl) (by kernel_rfl) (fun _ _ _ h => h) (Or.inl ⟨by rfl, ?thy38⟩) (by assumption) ?trest38; case thy38 => (intro w hSw; (try dsimp only at hSw); go_simp; (try with_reducible rfl)); (try simp only [Act.put, List.getElem_toArray, List.getElem_cons_zero, List.getElem_cons_succ, List.setIfInBounds_toArray, List.set_cons_zero, List.set_cons_succ])); (refine wpAnyH_take (i := 11) (v := ?tv39) rfl (by kernel_rfl) (by kernel_rfl) (by kernel_rfl) (fun _ _ _ h => h) (Or.inl ⟨by rfl, ?thy39⟩) (by assumption) ?trest39; case thy39 => (intro w hSw; (try dsimp only at hSw); go_simp; (try with_reducible rfl)); (try simp only [Act.put, List.getElem_toArray, List.getElem_cons_zero, List.getElem_cons_succ, List.setIfInBounds_toArray, List.set_cons_zero, List.set_cons_succ])); (refine wpAnyH_take (i := 12) (v := ?tv40) rfl (by kernel_rfl) (by kernel_rfl) (by kernel_rfl) (fun _ _ _ h => h) (Or.inl ⟨by rfl, ?thy40⟩) (by assumption) ?trest40; case thy40 => (intro w hSw; (try dsimp only at hSw); go_simp; (try with_reducible rfl)); (try simp only [Act.put, List.getElem_toArray, List.getElem_cons_zero, List.getElem_cons_succ, List.setIfInBounds_toArray, List.set_cons_zero, List.set_cons_succ]))
      refine wpAnyH_ready (rs := [13]) (by kernel_rfl) (by simp) ?_; refine AllReadyH.cons (i := 13) rfl (fun K hK => ?_) AllReadyH.nil
      go_simp
      refine (c_spec_ExitOf (patR X n1) h ua _ (hua.below ((Below.refl _ _).dr))).mono ?_; rintro e w6 ⟨u6, rfl, ho6, hb6⟩
      rw [HEX.out] at ho6
      have hb6 := below_drew hb6
      refine hK.out _ _ ⟨keepc hb6 k0, keepc hb6 k1, keepc hb6 x0⟩ (fun hHeld => ?_)
      clear hK K
      (try simp only [Act.put, List.getElem_toArray, List.getElem_cons_zero, List.getElem_cons_succ, List.setIfInBounds_toArray, List.set_cons_zero, List.set_cons_succ])
      have hone := OwnI.one ho6
      have hlt6 := World.ownsRow.lt ho6
      have hrr := ho6.rd
      obtain ⟨ar, capr, rfl, -, -⟩ := hrr
      have hs6 := hb6.size
      have hout6 := hout.below hb6
      (refine wpAnyH_take (i := 14) (v := ?tv41) rfl (by kernel_rfl) (by kernel_rfl) (by kernel_rfl) (fun _ _ _ h => h) (Or.inl ⟨by rfl, ?thy41⟩) (by assumption) ?trest41; case thy41 => (intro w hSw; (try dsimp only at hSw); go_simp; (try with_reducible rfl)); (try simp only [Act.put, List.getElem_toArray, List.getElem_cons_zero, List.getElem_cons_succ, List.setIfInBounds_toArray, List.set_cons_zero, List.set_cons_succ])); (refine wpAnyH_take (i := 15) (v := ?tv42) rfl (by kernel_rfl) (by kernel_rfl) (by kernel_rfl) (fun _ _ _ h => h) (Or.inl ⟨by rfl, ?thy42⟩) (by assumption) ?trest42; case thy42 => (intro w hSw; (try dsimp only at hSw); go_simp; (try with_reducible rfl)); (try simp only [Act.put, List.getElem_toArray, List.getElem_cons_zero, List.getElem_cons_succ, List.setIfInBounds_toArray, List.set_cons_zero, List.set_cons_succ])); (refine wpAnyH_take (i := 16) (v := ?tv43) rfl (by kernel_rfl) (by kernel_rfl) (by kernel_rfl) (fun _ _ _ h => h) (Or.inl ⟨by rfl, ?thy43⟩) (by assumption) ?trest43; case thy43 => (intro w hSw; (try dsimp only at hSw); go_simp; (try with_reducible rfl)); (try simp only [Act.put, List.getElem_toArray, List.getElem_cons_zero, List.getElem_cons_succ, List.setIfInBounds_toArray, List.set_cons_zero, List.set_cons_succ])); (refine wpAnyH_take (i := 17) (v := ?tv44) rfl (by kernel_rfl) (by kernel_rfl) (by kernel_rfl) (fun _ _ _ h => h) (Or.inl ⟨by rfl, ?thy44⟩) (by assumption) ?trest44; case thy44 => (intro w hSw; (try dsimp only at hSw); go_simp; (try with_reducible rfl)); (try simp only [Act.put, List.getElem_toArray, List.getElem_cons_zero, List.getElem_cons_succ, List.setIfInBounds_toArray, List.set_cons_zero, List.set_cons_succ])); (refine wpAnyH_take (i := 18) (v := ?tv45) rfl (by kernel_rfl) (by kernel_rfl) (by kernel_rfl) (fun _ _ _ h => h) (Or.inl ⟨by rfl, ?thy45⟩) (by assumption) ?trest45; case thy45 => (intro w hSw; (try dsimp only at hSw); go_simp; (try with_reducible rfl)); (try simp only [Act.put, List.getElem_toArray, List.getElem_cons_zero, List.getElem_cons_succ, List.setIfInBounds_toArray, List.set_cons_zero, List.set_cons_succ]))
      refine wpAnyH_done (by kernel_rfl) ?_ _
      refine NoPanic.normal ?_
      go_wp2_with (at_builtin; refine push_g rfl _ _ _ rfl Tryz.underlying66 infoG1 _ _ _ _ w6 rfl rfl (by exact hout6) (by exact ho6.base (by exact hbs)) (fun b hb => (hlt6 b hb).1) hone (by rw [HLN.out]; omega) (by omega) ?_; intro v9 w9 hG9 hg9 hat9 hs9; refine stop_of ?_)
      unfold Stopped
      rw [← HST.out] at hG9
      have B9 : Below w.heap.size w w9 := (hb.tr hb6).grown hg9 (by omega) (fun q hq => (hglt q hq).1)
      have HG10 : Hid (OwnGG w.heap.size w9.heap.size w9 v9 (brR h X)) := hG9
      clear hG9
      go_wp2
      go_ret
      exact ⟨_, rfl, HG10.out, B9⟩
end Go.Proofs.YtioemkdapoombaaGreatDoor
namespace Go.Proofs.YtioemkdapoombaaGreatDoor
open Go.ChangeShapes Go.WideShapes Go.ChangeAt Go.RowKit
set_option linter.unusedVariables false
set_option linter.unusedSimpArgs false
def rtC (h : Int) (X : List Part2) : Int := bif validR h X then 0 else 1
theorem routOf (w : World) (T : TypeId) (h : Int) (v : Value) : ∃ W0, W0 = w.alloc (Obj.cells #[.int .i64 h, v] T) ∧ W0.cell? ⟨w.heap.size, 0, none⟩ = some (.int .i64 h) ∧ W0.cell? ⟨w.heap.size, 1, none⟩ = some v ∧ Below w.heap.size w W0 := twoVals w T _ _
theorem CellsAt.grown {a b : World} {g m : Nat} {r : Option Nat} (h : CellsAt a g m) (hg : a.grownBy b r) (hr : r ≠ some g) : CellsAt b g m := fun i hi => by
  obtain ⟨⟨u, hu⟩, hf⟩ := h i hi
  exact ⟨⟨u, grown_c hg hu hr⟩, grown_f hg hu hf hr⟩
theorem CellsAt.set {a : World} {g m j : Nat} (h : CellsAt a g m) (u : Value) : CellsAt (a.setCell ⟨g, j, none⟩ u) g m := fun i hi => by
  obtain ⟨⟨v, hv⟩, hf⟩ := h i hi
  refine ⟨?_, by rw [World.frozen?_setCell]; exact hf⟩
  by_cases e : j = i
  · subst e; exact ⟨u, World.cell?_setCell_same a _ _ hv⟩
  · refine ⟨v, (World.cell?_setCell_other _ _ _ _ (fun e2 => ?_)).trans hv⟩
    cases e2; exact e rfl
end Go.Proofs.YtioemkdapoombaaGreatDoor
