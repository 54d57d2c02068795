/- The law OrdersX: what it rests on, part 46 of 48. -/
import Derived.Test.YtgcmnpimkfmccaaQOrdersX45
namespace Go.Proofs.Ytgcmnpimkfmccaa
open Go.ChangeShapes Go.WideShapes Go.ChangeAt Go.RowKit
set_option linter.unusedSimpArgs false
set_option linter.unusedVariables false
/-- the throws ahead of the bridge k, and the numbers of their parts -/
noncomputable def thrI (h : Int) (X : List Part2) : Nat → List Int
  | 0 => []
  | k + 1 => thrI h X k ++ brAt h X k ++ repL (patR X k) (timR X k).toNat
noncomputable def prtI (h : Int) (X : List Part2) : Nat → List Int
  | 0 => []
  | k + 1 => prtI h X k ++ List.replicate (brAt h X k).length (-1) ++ List.replicate (repL (patR X k) (timR X k).toNat).length (k : Int)
noncomputable def prtR (h : Int) (X : List Part2) : List Int := prtI h X X.length ++ List.replicate (brAt h X X.length).length (-1)
theorem thrI_br (h : Int) (X : List Part2) : ∀ k, thrTo h X k = thrI h X k ++ brAt h X k
  | 0 => by simp [thrTo, thrI]
  | k + 1 => by
    show thrTo h X k ++ repL (patR X k) (timR X k).toNat ++ brAt h X (k + 1) = _
    rw [thrI_br h X k]
    rfl
theorem prtI_len (h : Int) (X : List Part2) : ∀ k, (prtI h X k).length = (thrI h X k).length
  | 0 => rfl
  | k + 1 => by
    show (prtI h X k ++ List.replicate (brAt h X k).length (-1) ++ List.replicate (repL (patR X k) (timR X k).toNat).length (k : Int)).length = (thrI h X k ++ brAt h X k ++ repL (patR X k) (timR X k).toNat).length
    simp only [List.length_append, List.length_replicate, prtI_len h X k]
theorem thrI_len {h : Int} {X : List Part2} (R : RoutOk h X) {k : Nat} (hk : k ≤ X.length) : (thrI h X k).length + (brAt h X k).length ≤ 1024 + k * 1264 := by
  have := thr_len R k hk
  rw [thrI_br, List.length_append] at this
  exact this
/-- a row of an own slice of slices -/
theorem OwnG.rowAt {ES e : TypeId} {lo hi : Nat} {w : World} {v : Value} {X : List (List Int)} (h : OwnG ES e lo hi w v X) (k : Nat) (hk : k < X.length) :
    ∃ g cap r, v = .slice (some ⟨g, 0, none⟩) X.length cap ∧ lo ≤ g ∧ g < hi ∧ w.cell? ⟨g, k, none⟩ = some r ∧ OwnIR e lo hi w r (X.getD k []) := by
  obtain ⟨vs, h1, h2, h3, h4, -, -⟩ := h
  have h2' := h2
  rcases h2.2 with ⟨hv, hn⟩ | ⟨g, cap, cur, rfl, hg, hh, hn, hm, _⟩
  · omega
  · refine ⟨g, cap, vs.getD k undef, rfl, hg, h3 g rfl, ?_, h4 k hk⟩
    rw [World.ownsRow.cellAt h2' k (by omega)]
    simp [List.getD, List.getElem?_eq_getElem (show k < vs.length by omega)]
theorem TwoAt.lt {E : TypeId} {lo bt bp : Nat} {w : World} {vt vq : Value} {T Q : List Int} (h : TwoAt E lo bt bp w vt vq T Q) : ∀ b, rowsOf bt bp vt vq b → b < w.heap.size := by
  intro b d
  rcases d with d | d | d | d
  · have : bt < w.heap.size := World.block_lt_of_cell? w _ h.ct
    omega
  · have : bp < w.heap.size := World.block_lt_of_cell? w _ h.cp
    omega
  · exact (World.ownsRow.lt h.ot b d).2
  · exact (World.ownsRow.lt h.op b d).2
/-- two boxes of empty rows -/
theorem twoBoxes (w : World) (T E S : TypeId) (h v : Value) : ∃ W0, W0 = (((((w.alloc (Obj.cells #[h, v] T)).alloc (Obj.cells #[] E)).alloc (Obj.cells #[] E)).alloc (Obj.cells #[Value.slice (some ⟨w.heap.size + 1, 0, none⟩) 0 0] S)).alloc (Obj.cells #[Value.slice (some ⟨w.heap.size + 1 + 1, 0, none⟩) 0 0] S)) ∧
    W0.cell? ⟨w.heap.size, 0, none⟩ = some h ∧ W0.cell? ⟨w.heap.size, 1, none⟩ = some v ∧ W0.heap.size = w.heap.size + 5 ∧ Below w.heap.size w W0 ∧
    TwoAt E (w.heap.size + 1) (w.heap.size + 1 + 1 + 1) (w.heap.size + 1 + 1 + 1 + 1) W0 (.slice (some ⟨w.heap.size + 1, 0, none⟩) 0 0) (.slice (some ⟨w.heap.size + 1 + 1, 0, none⟩) 0 0) [] [] := by
  have e1 : (w.alloc (Obj.cells #[h, v] T)).heap.size = w.heap.size + 1 := by simp
  have e2 : ((w.alloc (Obj.cells #[h, v] T)).alloc (Obj.cells #[] E)).heap.size = w.heap.size + 1 + 1 := by simp
  have o1 : OwnI E (w.heap.size + 1) ((w.alloc (Obj.cells #[h, v] T)).alloc (Obj.cells #[] E)) (.slice (some ⟨w.heap.size + 1, 0, none⟩) 0 0) [] := OwnI.made rfl e1.symm (by omega)
  have o2 : OwnI E (w.heap.size + 1) (((w.alloc (Obj.cells #[h, v] T)).alloc (Obj.cells #[] E)).alloc (Obj.cells #[] E)) (.slice (some ⟨w.heap.size + 1 + 1, 0, none⟩) 0 0) [] := OwnI.made rfl e2.symm (by omega)
  refine ⟨_, rfl, by go_simp, by go_simp, by simp, (((((Below.refl _ _).al _).al _).al _).al _).al _, ⟨by go_simp, by go_simp, by go_simp, by go_simp, ((o1.al _).al _).al _, (o2.al _).al _, ⟨_, _, _, rfl⟩, ⟨_, _, _, rfl⟩, fun b hb => ?_, fun b hb => ?_, by omega⟩⟩
  · simp only [Value.ownBlock, Option.some.injEq] at hb
    refine ⟨by omega, by omega, fun e => ?_⟩
    simp only [Value.ownBlock, Option.some.injEq] at e
    omega
  · simp only [Value.ownBlock, Option.some.injEq] at hb
    exact ⟨by omega, by omega⟩
def TQ (h : Int) (X : List Part2) (k : Nat) (T Q : List Int) : Prop := (k ≤ X.length ∧ T = thrI h X k ∧ Q = prtI h X k) ∨ (k = X.length + 1 ∧ T = thrR h X ∧ Q = prtR h X)
theorem TQ.in {h : Int} {X : List Part2} {k : Nat} {T Q : List Int} (t : TQ h X k T Q) (hk : k < X.length + 1) : T = thrI h X k ∧ Q = prtI h X k := by
  rcases t with ⟨-, h1⟩ | ⟨h1, -⟩
  · exact h1
  · omega
theorem TQ.next {h : Int} {X : List Part2} {k : Nat} (hk : k < X.length) : TQ h X (k + 1) (thrI h X k ++ brAt h X k ++ repL (patR X k) (timR X k).toNat) (prtI h X k ++ List.replicate (brAt h X k).length (-1) ++ List.replicate (repL (patR X k) (timR X k).toNat).length (k : Int)) :=
  Or.inl ⟨by omega, rfl, rfl⟩
theorem TQ.last {h : Int} {X : List Part2} {k : Nat} (hk : k = X.length) : TQ h X (k + 1) (thrI h X k ++ brAt h X k) (prtI h X k ++ List.replicate (brAt h X k).length (-1)) := by
  subst hk
  exact Or.inr ⟨rfl, by rw [thrR, thrI_br], rfl⟩
/-- the rows' blocks: made before the bridges, or behind them -/
def farB (n m1 m2 : Nat) (b : Nat) : Prop := (n < b ∧ b < m1) ∨ m2 ≤ b
theorem farB_next {n m1 m2 bt bp k : Nat} {vt vq vt2 vq2 : Value} (h : ∀ b, rowsOf bt bp vt vq b → farB n m1 m2 b) (hk : m2 ≤ k) (h1 : NextV k vt vt2) (h2 : NextV k vq vq2) : ∀ b, rowsOf bt bp vt2 vq2 b → farB n m1 m2 b := by
  intro b d
  rcases d with d | d | d | d
  · exact h b (Or.inl d)
  · exact h b (Or.inr (Or.inl d))
  · rcases h1 with e | e
    · exact h b (Or.inr (Or.inr (Or.inl (e ▸ d))))
    · have := e b d
      exact Or.inr (by omega)
  · rcases h2 with e | e
    · exact h b (Or.inr (Or.inr (Or.inr (e ▸ d))))
    · have := e b d
      exact Or.inr (by omega)
set_option maxHeartbeats 8000000 in
set_option maxRecDepth 100000 in
theorem c_impl_Routine_throws (X : List Part2) (h : Int) (v : Value) (w : World) (hr : RdP w v X) (R : RoutOk h X) :
    Calls Try.prog 54 #[.agg #[.int .i64 h, v]] w fun e w' => ∃ u1 u2, e = .returned (.tuple #[u1, u2]) ∧ OwnI1 w.heap.size w' u1 (thrR h X) ∧ OwnI1 w.heap.size w' u2 (prtR h X) ∧ Below w.heap.size w w' := by
  obtain ⟨W0, hW0, k0, k1, hs0, B0, t0⟩ := twoBoxes w 26 2 28 (.int .i64 h) v
  have hr' := hr
  obtain ⟨a1, cap1, rfl, hl1, -⟩ := hr'
  have HRW := Lib.hid hr
  have hxl := R.hl
  clear hr
  go_enter Try.func54, Try.ntmps54
  go_wp2_with fail
  rw [← hW0]
  clear hW0
  refine (c_impl_Routine_bridges X h _ _ (HRW.out.below B0) R).mono ?_; rintro e w1 ⟨u1, rfl, ho1, hb1⟩
  have hbl : (brR h X).length = X.length + 1 := brR_len h X
  have t1 := t0.below hb1
  have k0 := keepc hb1 k0
  have k1 := keepc hb1 k1
  have B1 := B0.tr hb1
  have hs1 := hb1.size
  have HO := Lib.hid ho1
  obtain ⟨g1, cap2, r0, rfl, hg1, hg2, -, -⟩ := OwnG.rowAt ho1 0 (by omega)
  clear ho1 t0
  rw [hbl]
  obtain ⟨nw, Hnw⟩ : ∃ nw, Hid (w.heap.size = nw) := ⟨_, rfl⟩
  rw [Hnw.out] at t1 k0 k1 hs0
  rw [show w.heap.size = nw from Hnw.out]
  obtain ⟨bt, Hbt⟩ : ∃ bt, Hid (nw + 1 + 1 + 1 = bt) := ⟨_, rfl⟩
  obtain ⟨bp, Hbp⟩ : ∃ bp, Hid (nw + 1 + 1 + 1 + 1 = bp) := ⟨_, rfl⟩
  rw [show nw + 1 + 1 + 1 + 1 = bp from Hbp.out, show nw + 1 + 1 + 1 = bt from Hbt.out]
  rw [Hbp.out, Hbt.out] at t1
  have hbt : nw < bt ∧ bt < W0.heap.size := by have := Hbt.out; omega
  have hbp : nw < bp ∧ bp < W0.heap.size := by have := Hbp.out; omega
  have h1w : W0.heap.size ≤ w1.heap.size := hs1
  have HNX := Lib.hid (fun (k : Nat) (hk : k < X.length) => TQ.next (h := h) hk)
  have HLT := Lib.hid (fun (k : Nat) (hk : k = X.length) => TQ.last (h := h) hk)
  go_wp2_with fail
  go_loopw [15] (fun i wr => ∃ k : Nat, k ≤ X.length + 1 ∧ i = .int .i64 k ∧ ∃ vt vq T Q, TQ h X k T Q ∧ TwoAt 2 (nw + 1) bt bp wr vt vq T Q ∧ (∀ b, rowsOf bt bp vt vq b → farB nw W0.heap.size w1.heap.size b) ∧ UpdS (fun b => nw < b ∧ b < W0.heap.size) w1 wr) (fun i _ => X.length + 1 - (intOf i).toNat)
  case atStart =>
    refine ⟨0, by omega, rfl, _, _, _, _, Or.inl ⟨by omega, rfl, rfl⟩, t1, ?_, UpdS.refl _ _⟩
    intro b d
    have := Hbt.out
    have := Hbp.out
    rcases d with d | d | d | d
    · exact Or.inl (by omega)
    · exact Or.inl (by omega)
    · simp only [Value.ownBlock, Option.some.injEq] at d
      exact Or.inl (by omega)
    · simp only [Value.ownBlock, Option.some.injEq] at d
      exact Or.inl (by omega)
  case round =>
    clear t1
    obtain ⟨k, hk, rfl, vt, vq, T, Q, hTQ, t2, hfar, up⟩ := hrel
    have k0 : wr.cell? ⟨nw, 0, none⟩ = some (.int .i64 h) := up.cell k0 (by omega)
    have k1 : wr.cell? ⟨nw, 1, none⟩ = some (.slice a1 X.length cap1) := up.cell k1 (by omega)
    have hsz := up.size
    by_cases hlt : k < X.length + 1
    · obtain ⟨rfl, rfl⟩ := hTQ.in hlt
      obtain ⟨g1', cap2', r, he, hg1', hg2', x0, hrow⟩ := OwnG.rowAt HO.out k (by omega)
      cases he
      rw [br_row hlt] at hrow
      have x0 : wr.cell? ⟨g1, k, none⟩ = some r := up.cell x0 (by omega)
      have hrow2 : OwnIR 2 W0.heap.size w1.heap.size wr r (brAt h X k) := hrow.upd (up.upd (lo := nw + 1) (hi := W0.heap.size) (fun i _ d => by omega)) (Or.inr (Nat.le_refl _))
      have hrr := hrow2.rd
      have hrv : ∀ b, r.ownBlock = some b → ¬ rowsOf bt bp vt vq b := fun b hb d => by
        have h1 := (World.ownsRow.lt hrow2.1 b hb).1
        have h2 := hrow2.2 b hb
        rcases hfar b d with h3 | h3 <;> omega
      have hll : (thrI h X k).length + (brAt h X k).length ≤ 1024 + k * 1264 := thrI_len R (by omega)
      have hpl : (prtI h X k).length = (thrI h X k).length := prtI_len h X k
      have hin0 : (0 : Int) ≤ (k : Int) := by omega
      have hin1 : (k : Int) < (X.length : Int) + 1 := by omega
      obtain ⟨a2, c2, rfl, hl2, -⟩ := hrow2.rd
      have HT2 := Lib.hid t2
      have HF := Lib.hid hfar
      have HRR := Lib.hid hrr
      have HRV := Lib.hid hrv
      have HUP := Lib.hid up
      clear t2 hfar hrow hrow2 hrr hrv up
      go_wp2_with fail
      refine (c_impl_throws_1 (nw + 1) bt bp (brAt h X k) (thrI h X k) (prtI h X k) (-1) _ vt vq wr HRR.out HRV.out HT2.out (by omega) (by omega) (by omega)).mono ?_; rintro e w2 ⟨rfl, vt2, vq2, t3, n3, m3, up3⟩
      have hfar3 := farB_next HF.out (by omega) n3 m3
      have up2 := HUP.out.trans up3 (fun i hi d => by rcases HF.out i d with h3 | h3 <;> omega)
      have k0 : w2.cell? ⟨nw, 0, none⟩ = some (.int .i64 h) := up3.cell k0 (fun d => by rcases HF.out nw d with h3 | h3 <;> omega)
      have k1 : w2.cell? ⟨nw, 1, none⟩ = some (.slice a1 X.length cap1) := up3.cell k1 (fun d => by rcases HF.out nw d with h3 | h3 <;> omega)
      have hs3 := up2.size
      have HT3 := Lib.hid t3
      have HF3 := Lib.hid hfar3
      have HU3 := Lib.hid up2
      clear t3 hfar3 up2 up3 n3 m3 x0
      by_cases hlx : k < X.length
      · obtain ⟨bq, oq, uq, hae, y0, y1, huq⟩ := HRW.out.part k hlx
        subst hae
        have hbq : bq < w.heap.size := World.block_lt_of_cell? w _ y0
        have hnw := Hnw.out
        have hB1 : ∀ {bl o : Nat} {u : Value}, w.cell? ⟨bl, o, none⟩ = some u → w2.cell? ⟨bl, o, none⟩ = some u := fun {bl o u} q => HU3.out.cell (keepc B1 q) (fun d => by have : bl < w.heap.size := World.block_lt_of_cell? w _ q; omega)
        have y0 := hB1 y0
        have y1 := hB1 y1
        have huq2 : RdI w2 uq (patR X k) := HU3.out.rd (huq.below B1) (fun b hb d => by
          obtain ⟨ad, cq, rfl, hlq, hcq⟩ := huq
          have := pat_len R hlx
          obtain ⟨bl, off, rfl, hcell⟩ := hcq 0 (by omega)
          have h9 : bl < w.heap.size := World.block_lt_of_cell? w _ hcell
          simp only [Value.ownBlock, Option.some.injEq] at hb
          omega)
        have htm := R.ht k hlx
        obtain ⟨tn, htn⟩ := Int.eq_ofNat_of_zero_le (show 0 ≤ timR X k by omega)
        rw [htn] at y1 htm
        have htt : (timR X k).toNat = tn := by omega
        have hrl := rep_len R hlx (t := tn) (by omega)
        have hpl2 := pat_len R hlx
        have HN := Lib.hid (HNX.out k hlx)
        rw [htt] at HN
        have hin2 : (k : Int) < (X.length : Int) := by omega
        have hll3 : (thrI h X k ++ brAt h X k).length ≤ 1024 + k * 1264 := by rw [List.length_append]; omega
        have hll4 : (prtI h X k ++ List.replicate (brAt h X k).length (-1)).length ≤ 1024 + k * 1264 := by rw [List.length_append, List.length_replicate]; omega
        have hk8 : k * 1264 ≤ 8 * 1264 := Nat.mul_le_mul_right _ (by omega)
        go_wp2_with fail
        go_region_held3 (fun w' => w'.cell? ⟨nw, 0, none⟩ = some (.int .i64 h) ∧ w'.cell? ⟨nw, 1, none⟩ = some (.slice (some ⟨bq, oq, none⟩) X.length cap1) ∧ w'.cell? ⟨bq, oq + k * 2, none⟩ = some uq ∧ w'.cell? ⟨bq, oq + k * 2 + 1, none⟩ = some (.int .i64 (tn : Int)))
          (go_keep)
          (first
            | ((go_at_call 90; refine (c_impl_repeated (patR X k) tn _ _ (huq2.below ((Below.refl _ _).dr)) (by omega) (by omega)).mono ?_; rintro e w3 ⟨u3, rfl, ho3, hb3⟩; have hb3' := below_drew hb3; have q0 := keepc hb3' k0; have q1 := keepc hb3' k1; have q2 := keepc hb3' y0; have q3 := keepc hb3' y1))
            | ((go_at_call 88; refine (c_impl_throws_1 (nw + 1) bt bp (repL (patR X k) tn) _ _ (k : Int) u3 vt2 vq2 w3 ho3.rd (fun b hb d => absurd (TwoAt.lt HT3.out b d) (Nat.not_lt_of_le (World.ownsRow.lt ho3 b hb).1)) (HT3.out.below hb3') (by omega) (by omega) (by have := hb3'.size; omega)).mono ?_; rintro e w4 ⟨rfl, vt4, vq4, t4, n4, m4, up4⟩; have q0 := up4.cell q0 (fun d => by rcases HF3.out nw d with h3 | h3 <;> omega); have q1 := up4.cell q1 (fun d => by rcases HF3.out nw d with h3 | h3 <;> omega); have q2 := up4.cell q2 (fun d => by rcases HF3.out bq d with h3 | h3 <;> omega); have q3 := up4.cell q3 (fun d => by rcases HF3.out bq d with h3 | h3 <;> omega))))
        have s3 := hb3'.size
        have hfar4 := farB_next HF3.out (by omega) n4 m4
        have up5 := (HU3.out.trans (UpdS.of_below hb3') (fun _ _ d => d)).trans up4 (fun i hi d => by rcases HF3.out i d with h3 | h3 <;> omega)
        have HR := Lib.hid (And.intro t4 (And.intro hfar4 up5))
        clear t4 hfar4 up5 up4 n4 m4 q0 q1 q2 q3 hb3 hb3' ho3 huq huq2 k0 k1 y0 y1
        go_wp2
        go_roundw
        case rel => exact ⟨k + 1, by omega, by go_num, vt4, vq4, _, _, HN.out, HR.out⟩
        case measure => simp [intOf]; omega
      · have hin2 : ¬ (k : Int) < (X.length : Int) := by omega
        go_wp2
        go_roundw
        case rel => exact ⟨k + 1, by omega, by go_num, vt2, vq2, _, _, HLT.out k (by omega), HT3.out, HF3.out, HU3.out⟩
        case measure => simp [intOf]; omega
    · have hin2 : ¬ (k : Int) < (X.length : Int) + 1 := by omega
      obtain ⟨rfl, rfl⟩ : T = thrR h X ∧ Q = prtR h X := by
        rcases hTQ with ⟨h1, -⟩ | ⟨-, h1⟩
        · omega
        · exact h1
      have ct := t2.ct
      have cp := t2.cp
      have hnw := Hnw.out
      have ho1 : OwnI1 w.heap.size wr vt (thrR h X) := t2.ot.base (by omega)
      have ho2 : OwnI1 w.heap.size wr vq (prtR h X) := t2.op.base (by omega)
      have hu := up.upd (lo := nw + 1) (hi := W0.heap.size) (fun i _ d => by omega)
      have BZ : Below w.heap.size w wr := B1.trans (hu.below (by omega) (by have := B1.size; omega))
      clear t2 hfar up
      go_wp2_with fail
      go_region_held3 (fun w' => w'.cell? ⟨bt, 0, none⟩ = some vt ∧ w'.cell? ⟨bp, 0, none⟩ = some vq) (go_keep) (fail)
      go_wp2
      exact bodyPost_ret (v := .tuple #[vt, vq]) (by simp [results, Try.results54, go_sem]) rfl ⟨vt, vq, rfl, ho1, ho2, BZ.dr⟩
end Go.Proofs.Ytgcmnpimkfmccaa
