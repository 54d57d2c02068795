/- Contracts: the program's frame. -/
import Derived.Test.YtpcaaohdlcoplaaFrC
import Derived.Test.YtpcaaohdlcoplaaFrE
import Derived.Test.YtpcaaohdlcoplaaPatU
import Derived.Test.YtpcaaohdlcoplaaPlainQ
import Derived.Test.YtpcaaohdlcoplaaOwnC
import Derived.Test.YtpcaaohdlcoplaaMemW
import Derived.Test.YtpcaaohdlcoplaaBools
namespace Go.Proofs.Ytpcaaohdlcoplaa
open Go.ChangeShapes Go.WideShapes Go.ChangeAt Go.RowKit
set_option linter.unusedVariables false
set_option linter.unusedSimpArgs false
/-- some elements of a fresh slice of structs are laid -/
def FilledOn {α : Type} (sz : Nat) (row : α → List Value) (w : World) (g : Nat) (xs : List α) (S : Nat → Prop) : Prop := ∀ i (hi : i < xs.length), S i → ∀ c u, (row xs[i])[c]? = some u → w.cell? ⟨g, i * sz + c, none⟩ = some u
theorem FilledOn.upd {α : Type} {sz : Nat} {row : α → List Value} {a b : World} {g : Nat} {xs : List α} {S : Nat → Prop} {D : Nat → Prop} (h : FilledOn sz row a g xs S) (u : UpdS D a b) (hn : ¬ D g) : FilledOn sz row b g xs S := fun i hi hs c v hv => u.cell (h i hi hs c v hv) hn
theorem FilledOn.below {α : Type} {sz : Nat} {row : α → List Value} {a b : World} {g : Nat} {xs : List α} {S : Nat → Prop} (h : FilledOn sz row a g xs S) (hb : Below a.heap.size a b) : FilledOn sz row b g xs S := fun i hi hs c u hu => keepc hb (h i hi hs c u hu)
theorem cell_setF {a : World} {bl o g' j : Nat} {v u : Value} (hne : g' ≠ bl) (k : a.cell? ⟨bl, o, none⟩ = some v) : (a.setCell ⟨g', j, none⟩ u).cell? ⟨bl, o, none⟩ = some v := by
  rw [World.cell?_setCell_other _ _ _ _ (by intro e; cases e; exact hne rfl)]; exact k
theorem CellsAt.set {a : World} {g m g' j : Nat} (h : CellsAt a g m) (hne : g' ≠ g) (u : Value) : CellsAt (a.setCell ⟨g', j, none⟩ u) g m := fun i hi => by
  obtain ⟨⟨v, hv⟩, hf⟩ := h i hi
  exact ⟨⟨v, by rw [World.cell?_setCell_other _ _ _ _ (by intro e; cases e; exact hne rfl)]; exact hv⟩, by rw [World.frozen?_setCell]; exact hf⟩
theorem FilledOn.set {α : Type} {sz : Nat} {row : α → List Value} {a : World} {g g' j : Nat} {xs : List α} {S : Nat → Prop} (h : FilledOn sz row a g xs S) (hne : g' ≠ g) (u : Value) : FilledOn sz row (a.setCell ⟨g', j, none⟩ u) g xs S := fun i hi hs c v hv => by
  rw [World.cell?_setCell_other _ _ _ _ (by intro e; cases e; exact hne rfl)]; exact h i hi hs c v hv
theorem lay_on {α : Type} {sz : Nat} {row : α → List Value} {w : World} {g : Nat} {xs : List α} {S : Nat → Prop} {k : Nat} (hrow : ∀ x, (row x).length = sz) (hC : CellsAt w g (xs.length * sz)) (hF : FilledOn sz row w g xs S) (hk : k < xs.length) (W : World) (hW : W = w.setCells g (k * sz) (row xs[k])) :
    CellsAt W g (xs.length * sz) ∧ FilledOn sz row W g xs (fun i => i = k ∨ S i) ∧ w.grownBy W (some g) := by
  subst hW
  have hle : (k + 1) * sz ≤ xs.length * sz := Nat.mul_le_mul_right _ hk
  rw [Nat.succ_mul] at hle
  have hin : ∀ j, j < (row xs[k]).length → (w.cell? ⟨g, k * sz + j, none⟩).isSome = true := fun j hj => by
    rw [hrow] at hj
    obtain ⟨⟨u, hu⟩, _⟩ := hC (k * sz + j) (by omega)
    rw [hu]; rfl
  refine ⟨fun i hi => ⟨?_, ?_⟩, fun i hi hik c u hu => ?_, grownBy_setCells w g _ _⟩
  · by_cases h : k * sz ≤ i ∧ i < k * sz + sz
    · have h1 := World.cell?_setCells_in g (row xs[k]) (k * sz) w hin (i - k * sz) (by rw [hrow]; omega)
      rw [show k * sz + (i - k * sz) = i by omega] at h1
      exact ⟨_, h1⟩
    · obtain ⟨⟨u, hu⟩, _⟩ := hC i hi
      refine ⟨u, (World.cell?_setCells_out g (row xs[k]) (k * sz) w _ (fun _ _ => ?_)).trans hu⟩
      rw [hrow]
      show i < k * sz ∨ k * sz + sz ≤ i
      omega
  · rw [frozen_setCells]; exact (hC i hi).2
  · have hc : c < sz := by
      have h := (List.getElem?_eq_some_iff.1 hu).1
      rw [hrow] at h; exact h
    by_cases hik2 : i = k
    · subst hik2
      have h1 := World.cell?_setCells_in g (row xs[i]) (i * sz) w hin c (by rw [hrow]; exact hc)
      rw [h1]
      obtain ⟨h2, h3⟩ := List.getElem?_eq_some_iff.1 hu
      rw [h3]
    · refine (World.cell?_setCells_out g (row xs[k]) (k * sz) w _ (fun _ _ => ?_)).trans (hF i hi (hik.resolve_left hik2) c u hu)
      rw [hrow]
      show i * sz + c < k * sz ∨ k * sz + sz ≤ i * sz + c
      rcases Nat.lt_or_gt_of_ne hik2 with h | h
      · have hlt : (i + 1) * sz ≤ k * sz := Nat.mul_le_mul_right _ (by omega)
        rw [Nat.succ_mul] at hlt
        omega
      · have hlt : (k + 1) * sz ≤ i * sz := Nat.mul_le_mul_right _ (by omega)
        rw [Nat.succ_mul] at hlt
        omega
theorem FilledOn.rd {α : Type} {sz : Nat} {row : α → List Value} {w : World} {g cap : Nat} {xs : List α} {S : Nat → Prop} (h : FilledOn sz row w g xs S) (hS : ∀ i, i < xs.length → S i) (hl : xs.length ≤ 9223372036854775807) : RdRow sz row w (.slice (some ⟨g, 0, none⟩) xs.length cap) xs :=
  ⟨_, _, rfl, hl, fun k hk => ⟨g, 0, rfl, fun c u hu => by rw [Nat.zero_add]; exact h k hk (hS k hk) c u hu⟩⟩
theorem BoolsAt.congr {a : World} {g n : Nat} {f f' : Nat → Bool} (h : BoolsAt a g n f) (he : ∀ k, k < n → f' k = f k) : BoolsAt a g n f' := fun k hk => ⟨by rw [he k hk]; exact (h k hk).1, (h k hk).2⟩
theorem BoolsAt.upd {a b : World} {g g' n : Nat} {f : Nat → Bool} (h : BoolsAt a g n f) (hb : a.grownBy b (some g')) (hne : g' ≠ g) : BoolsAt b g n f := fun k hk => ⟨grown_c hb (h k hk).1 (by simpa using hne), grown_f hb (h k hk).1 (h k hk).2 (by simpa using hne)⟩
theorem mx_bdI {p : List Int} (hv : validP p = true) : 0 ≤ mxF 0 p ∧ mxF 0 p ≤ 15 := by
  obtain ⟨h1, h2, h3⟩ := mxF_ge 0 p
  rcases h3 with h3 | h3
  · omega
  · have := (validP_iff.1 hv).1.1 _ h3; omega
theorem win_short (p : List Int) (f : Nat) : ∀ n, (winS p f n).length ≤ n
  | 0 => Nat.le_refl _
  | n + 1 => by
    have ih := win_short p f n
    unfold winS
    split
    · rw [ins_len]; omega
    · omega
theorem props_le {p : List Int} (hv : validP p = true) : propsP p ≤ 16 := by
  have h := win_full hv 0
  have := win_short p 0 16
  omega
theorem updS_belowF {D : Nat → Prop} {B : Nat} {a b c : World} (h : Below B a b) (u : UpdS D b c) (hD : ∀ k, D k → B ≤ k) (hB : B ≤ b.heap.size) : Below B a c :=
  ⟨u.os.trans h.os, u.tape.trans h.tape, u.output.trans h.output, Nat.le_trans h.size u.size, fun k hk => (u.block k (by omega) (fun d => by have := hD k d; omega)).trans (h.block k hk)⟩
theorem FilledOn.congr {α : Type} {sz : Nat} {row : α → List Value} {a : World} {g : Nat} {xs : List α} {S S' : Nat → Prop} (h : FilledOn sz row a g xs S) (hs : ∀ i, i < xs.length → S' i → S i) : FilledOn sz row a g xs S' := fun i hi h1 => h i hi (hs i hi h1)
/-- the dots of a frame -/
def dotsF (p : List Int) (B D x t : Int) : List Dot5 := (List.range (propsP p).toNat).map (fun q : Nat => dotP p B D x t q (bqP p (t / B + 1).toNat q))
theorem dotsF_len (p : List Int) (B D x t : Int) : (dotsF p B D x t).length = (propsP p).toNat := by unfold dotsF; simp
theorem dotsF_at {p : List Int} {B D x t : Int} {q : Nat} (h : q < (dotsF p B D x t).length) : (dotsF p B D x t)[q] = dotP p B D x t q (bqP p (t / B + 1).toNat q) := by simp only [dotsF, List.getElem_map, List.getElem_range]
theorem nx_time {p : List Int} {B t : Int} {b : Nat} (hB : 2 ≤ B) (ht : 0 ≤ t) (h : nxB p (t / B + 1).toNat b = true) : frP p b * B ≤ t := by
  have h1 := of_decide_eq_true h
  have h2 : 0 ≤ t / B := Int.ediv_nonneg ht (by omega)
  have h3 : frP p b ≤ t / B := by omega
  have h4 := Int.mul_le_mul_of_nonneg_right h3 (show 0 ≤ B by omega)
  have h5 := Int.ediv_mul_le t (show B ≠ 0 by omega)
  omega
theorem boxTFr (w : World) (a b : Int) : ∃ W0, W0 = (w.alloc (Obj.cells #[Value.int IntKind.i64 a, Value.int IntKind.i64 b] 58)).alloc (Obj.cells #[Value.int IntKind.i64 0, Value.slice none 0 0] 64) ∧
    W0.cell? ⟨w.heap.size, 0, none⟩ = some (.int .i64 a) ∧ W0.cell? ⟨w.heap.size, 1, none⟩ = some (.int .i64 b) ∧
    W0.cell? ⟨w.heap.size + 1, 0, none⟩ = some (.int .i64 0) ∧ W0.cell? ⟨w.heap.size + 1, 1, none⟩ = some (.slice none 0 0) ∧ W0.frozen? ⟨w.heap.size + 1, 0, none⟩ = false ∧ W0.frozen? ⟨w.heap.size + 1, 1, none⟩ = false ∧ Below w.heap.size w W0 := by
  refine ⟨_, rfl, ?_, ?_, ?_, ?_, ?_, ?_, ((Below.refl _ _).al _).al _⟩ <;> go_simp
theorem infoDotF : (Try.prog.info? 71).map (fun i => (i.zero, i.size, i.bytes)) = some (some (.agg #[.int .i64 0, .int .i64 0, .int .i64 0, .int .i64 0, .int .i64 0]), 5, 40) := by kernel_rfl
theorem infoBoolF : (Try.prog.info? 4).map (fun i => (i.zero, i.size, i.bytes)) = some (some (.bool false), 1, 1) := by kernel_rfl
set_option maxHeartbeats 8000000 in
set_option maxRecDepth 100000 in
theorem c_impl_frameO (p : List Int) (B D x t : Int) (v : Value) (w : World) (hr : RdI w v p) (hv : validP p = true) (hB : 2 ≤ B ∧ B ≤ 30) (hD : 1 ≤ D ∧ D ≤ 60) (hx : 0 ≤ x ∧ x ≤ 16) (ht : 0 ≤ t ∧ t ≤ 3000) :
    Calls Try.prog 86 #[v, .agg #[.int .i64 B, .int .i64 D], .int .i64 x, .int .i64 t] w fun e w' => ∃ u, e = .returned (.agg #[.int .i64 t, u]) ∧ OwnRow 71 5 rowD w.heap.size w'.heap.size w' u (dotsF p B D x t) ∧ Below w.heap.size w w' := by
  obtain ⟨W0, hW0, k0, k1, g0, g1, e0, e1, B0⟩ := boxTFr w B D
  have HR : Hid (RdI w v p) := Lib.hid hr
  have HV := Lib.hid hv
  have hdiv : 0 ≤ t / B := Int.ediv_nonneg ht.1 (by omega)
  have hdiv2 : t / B ≤ t := Int.ediv_le_self B ht.1
  obtain ⟨F, hF⟩ : ∃ F : Nat, t / B + 1 = (F : Int) := ⟨(t / B + 1).toNat, by omega⟩
  have hFb : F ≤ 3001 := by omega
  have HFN : Hid ((t / B + 1).toNat = F) := by unfold Hid; omega
  have hmx := mx_bdI hv
  obtain ⟨H, hH⟩ : ∃ H : Nat, mxF 0 p = (H : Int) := ⟨(mxF 0 p).toNat, by omega⟩
  have hHb : H ≤ 15 := by omega
  have HMX : Hid (∀ x ∈ p, x ≤ H) := fun x hx => by have := (mxF_ge 0 p).2.1 x hx; omega
  have hpn := props_nonneg hv
  have hpb := props_le hv
  obtain ⟨P, hP⟩ : ∃ P : Nat, propsP p = (P : Int) := ⟨(propsP p).toNat, by omega⟩
  have hPb : P ≤ 16 := by omega
  have HP := Lib.hid hP
  have HH := Lib.hid hH
  have HXL : Hid ((dotsF p B D x t).length = P) := by unfold Hid; rw [dotsF_len, hP]; rfl
  have HXA := Lib.hid (fun q hq => dotsF_at (p := p) (B := B) (D := D) (x := x) (t := t) (q := q) hq)
  rw [HFN.out] at HXA
  have HTM := Lib.hid (fun b hn => nx_time (p := p) (B := B) (t := t) (b := b) hB.1 ht.1 hn)
  rw [HFN.out] at HTM
  obtain ⟨XS, HXS⟩ : ∃ XS, Hid (dotsF p B D x t = XS) := ⟨_, Lib.hid rfl⟩
  rw [HXS.out] at HXL HXA
  rw [HXS.out]
  have HF := Lib.hid hF
  have hw1 : IntKind.i64.wrap ((F : Int) + (H : Int)) = ((F + H : Nat) : Int) := by rw [← Int.natCast_add]; exact IntWalk.i64_in _ (by omega)
  have hz0 : w.heap.size + 1 < W0.heap.size := World.block_lt_of_cell? _ _ g0
  clear hr hv hpn hpb hmx hP hH hdiv2
  go_enter Try.func86, Try.ntmps86
  go_wp2_with fail
  rw [← hW0]
  clear hW0
  refine (c_impl_highest p _ _ (HR.out.below B0)).mono ?_; rintro e w1 ⟨rfl, rfl⟩; rw [HH.out]
  go_wp2_with fail
  rw [show (F : Int) + (H : Int) = ((F + H : Nat) : Int) by omega]
  refine (c_impl_propsAt p (F + H) _ _ (HR.out.below B0) HV.out (by omega)).mono ?_; rintro e w2 ⟨u2, rfl, ho2, hb2⟩
  have k0 := keepc hb2 k0
  have k1 := keepc hb2 k1
  have g0 := keepc hb2 g0
  have g1 := keepc hb2 g1
  have e0 : w2.frozen? ⟨w.heap.size + 1, 0, none⟩ = false := by rw [hb2.frozen (p := ⟨w.heap.size + 1, 0, none⟩) hz0]; exact e0
  have e1 : w2.frozen? ⟨w.heap.size + 1, 1, none⟩ = false := by rw [hb2.frozen (p := ⟨w.heap.size + 1, 1, none⟩) hz0]; exact e1
  have B2 := B0.tr hb2
  have hz2 : w.heap.size + 1 < w2.heap.size := World.block_lt_of_cell? _ _ g0
  go_wp2_with fail
  refine (c_impl_propsOf p _ _ (HR.out.below B2) HV.out).mono ?_; rintro e w3 ⟨rfl, rfl⟩; rw [HP.out]
  go_wp2_with (at_make; refine make_cellsO rfl _ _ _ _ rfl Try.underlying62 _ _ _ infoDotF (by decide) w2.heap.size w2 _ _ _ _ P rfl rfl rfl rfl (by omega) (Nat.le_refl _) ?_; intro w3 hcells hown3 hbel3 hsz3)
  have hb3 := hbel3 w2 (Below.refl _ _)
  have k0 := keepc hb3 k0
  have k1 := keepc hb3 k1
  have e0 := frozenc hb3 g0 e0
  have e1 := frozenc hb3 g1 e1
  have g0 := keepc hb3 g0
  have g1 := keepc hb3 g1
  have B3 := B2.tr hb3
  have ho3 := ho2.below hb3
  clear hbel3
  refine (c_impl_propsOf p _ _ (HR.out.below B3) HV.out).mono ?_; rintro e w4 ⟨rfl, rfl⟩; rw [HP.out]
  go_wp2_with (at_make; refine make_bool rfl _ _ _ _ rfl Try.underlying131 infoBoolF w3.heap.size w3 _ _ _ _ P rfl rfl rfl rfl (by omega) (Nat.le_refl _) ?_; intro w4 hbools hbel4 hsz4)
  have hb4 := hbel4 w3 (Below.refl _ _)
  have k0 := keepc hb4 k0
  have k1 := keepc hb4 k1
  have e0 := frozenc hb4 g0 e0
  have e1 := frozenc hb4 g1 e1
  have g0 := keepc hb4 g0
  have g1 := keepc hb4 g1
  have B4 := B3.tr hb4
  have ho4 := ho3.below hb4
  have hC4 := hcells.below hb4
  have hO4 := hown3.below hb4
  have hlt2 := World.ownsRow.lt ho2
  clear hbel4 hcells hown3 ho2 ho3
  obtain ⟨au, cu, hue, hul, huc⟩ := ho4.rd
  subst hue
  have HUC : Hid (∀ b, b < F + H → ∃ bu ou, au = some ⟨bu, ou, none⟩ ∧ bu < w2.heap.size ∧ w4.cell? ⟨bu, ou + b, none⟩ = some (.int .i64 (ordA p b))) := fun b hb => by
    obtain ⟨bu, ou, hau, hc⟩ := huc b (by rw [ordL_len]; exact hb)
    refine ⟨bu, ou, hau, ?_, by rw [← ordL_get p hb]; exact hc⟩
    subst hau
    exact (hlt2 bu rfl).2
  have hll : (ordL p (F + H)).length = F + H := ordL_len _ _
  obtain ⟨LL, HLL⟩ : ∃ LL, Hid ((ordL p (F + H)).length = LL) := ⟨_, Lib.hid rfl⟩
  have hLL : LL = F + H := by rw [← HLL.out]; exact hll
  rw [show (ordL p (F + H)).length = LL from HLL.out]
  subst hLL
  have HW32 : w2.heap.size < w3.heap.size := hsz3
  have HW43 : w3.heap.size < w4.heap.size := hsz4
  have HPX := HP.out
  clear huc hul hll HLL hlt2 ho4
  go_loopw [13] (fun i wr => ∃ b : Nat, F ≤ b ∧ b ≤ F + H ∧ i = .int .i64 b ∧ BoolsAt wr w3.heap.size P (seenB p F b) ∧ CellsAt wr w2.heap.size (P * 5) ∧ FilledOn 5 rowD wr w2.heap.size XS (fun q => seenB p F b q = true) ∧ UpdS (fun g => g = w2.heap.size ∨ g = w3.heap.size) w4 wr ∧ OwnC 71 5 w2.heap.size wr w2.heap.size P) (fun i _ => F + H - (intOf i).toNat)
  case atStart =>
    have hs0 : ∀ q : Nat, q < P → seenB p F F q = false := fun q hq => by
      have := (bq_ok HV.out F q (by omega)).1
      unfold seenB; simp; omega
    have hF0 : FilledOn 5 rowD w4 w2.heap.size XS (fun q => seenB p F F q = true) := fun i hi hs => absurd hs (by show ¬ seenB p F F i = true; rw [hs0 i (by rw [← HXL.out]; exact hi)]; decide)
    exact ⟨F, Nat.le_refl _, by omega, rfl, hbools.congr hs0, hC4, hF0, UpdS.refl _ _, hO4⟩
  case round =>
    obtain ⟨b, hbF, hbH, rfl, hBo, hC, hFi, U, hO⟩ := hrel
    have hszr := U.size
    have BR : Below w.heap.size w wr := updS_belowF B4 U (fun k hk => by omega) (by omega)
    have k0 : wr.cell? ⟨w.heap.size, 0, none⟩ = some (.int .i64 B) := U.cell k0 (by omega)
    have k1 : wr.cell? ⟨w.heap.size, 1, none⟩ = some (.int .i64 D) := U.cell k1 (by omega)
    by_cases hlt : b < F + H
    · obtain ⟨bu, ou, rfl, hbu, hx0⟩ := HUC.out b hlt
      have hx1 : wr.cell? ⟨bu, ou + b, none⟩ = some (.int .i64 (ordA p b)) := U.cell hx0 (by omega)
      by_cases ha : atP p b = 0
      · have HO := Lib.hid (ord_none ha)
        rw [HO.out] at hx1
        have HS := Lib.hid (fun (q : Nat) (hq : q < P) => seen_none HV.out hbF ha (q := q) (by omega))
        clear ha
        go_wp2
        go_roundw
        case rel => exact ⟨b + 1, by omega, by omega, by go_num, hBo.congr (fun q hq => HS.out q hq), hC, hFi.congr (fun q hq h => by rw [← HS.out q (by rw [← HXL.out]; exact hq)]; exact h), U, hO⟩
        case measure => simp [intOf]; omega
      · have hob := ord_lt HV.out ha
        obtain ⟨Q, hQ⟩ : ∃ Q : Nat, ordA p b = (Q : Int) := ⟨(ordA p b).toNat, by omega⟩
        have hQP : Q < P := by omega
        have hQ2 : (ordA p b).toNat = Q := by omega
        rw [hQ] at hx1
        have hq0 : (0 : Int) ≤ (Q : Int) := by omega
        have hq1 : (Q : Int) < (P : Int) := by omega
        obtain ⟨c1, c1f⟩ := hBo Q hQP
        cases hs : seenB p F b Q
        · obtain ⟨HB1, HB2, HB3⟩ := seen_new HV.out hbF ha (by rw [hQ2]; exact hs)
          rw [hQ2] at HB1 HB3
          have HS := Lib.hid (fun (q : Nat) (hq : q < P) => HB3 q (by omega))
          have hQX : Q < XS.length := by rw [HXL.out]; exact hQP
          have hXQ := HXA.out Q hQX
          rw [HB1] at hXQ
          obtain ⟨⟨a1, a2, a3, a4, a5⟩, HDX⟩ : ∃ y, Hid (dotP p B D x t Q b = y) := ⟨_, Lib.hid rfl⟩
          rw [HDX.out] at hXQ
          have HXQ := Lib.hid hXQ
          have HCD : Hid (∀ (w7 : World), RdI w7 v p → Calls Try.prog 118 #[v, .agg #[.int .i64 B, .int .i64 D], .int .i64 x, .int .i64 t, .int .i64 Q, .int .i64 b] w7 fun e w' => e = .returned (.agg #[.int .i64 a1, .int .i64 a2, .int .i64 a3, .int .i64 a4, .int .i64 a5]) ∧ Below w7.heap.size w7 w') := fun w7 h7 => by
            have := c_impl_dotBefore p B D x t Q b v w7 h7 HV.out hB hD hx (by omega) ht (HTM.out b HB2) (by omega)
            rw [HDX.out] at this
            exact this
          rw [hs] at c1
          have hBs := hBo.store Q hQP true
          have hBs2 := hBs.congr (f' := seenB p F (b + 1)) (fun q hq => HS.out q hq)
          have hne3 : w3.heap.size ≠ w2.heap.size := by omega
          have hne4 : w2.heap.size ≠ w3.heap.size := by omega
          have hCs := hC.set (g' := w3.heap.size) (j := Q) hne3 (.bool true)
          have hFs := hFi.set (g' := w3.heap.size) (j := Q) hne3 (.bool true)
          have hOs := hO.set w3.heap.size Q (.bool true)
          have Us : UpdS (fun g => g = w2.heap.size ∨ g = w3.heap.size) w4 (wr.setCell ⟨w3.heap.size, Q, none⟩ (.bool true)) := U.trans (UpdS.of_set (D := fun g => g = w2.heap.size ∨ g = w3.heap.size) _ (Or.inr rfl)) (fun _ _ h => h)
          have BS : Below w.heap.size w (wr.setCell ⟨w3.heap.size, Q, none⟩ (.bool true)) := BR.setCell (p := ⟨w3.heap.size, Q, none⟩) (show w.heap.size ≤ w3.heap.size by omega) _
          have k0 : (wr.setCell ⟨w3.heap.size, Q, none⟩ (.bool true)).cell? ⟨w.heap.size, 0, none⟩ = some (.int .i64 B) := cell_setF (by omega) k0
          have k1 : (wr.setCell ⟨w3.heap.size, Q, none⟩ (.bool true)).cell? ⟨w.heap.size, 1, none⟩ = some (.int .i64 D) := cell_setF (by omega) k1
          clear HB1 HB2 HB3 hXQ ha hs hBs hBo hC hFi hO
          go_wp2_with fail
          refine (HCD.out _ (HR.out.below BS)).mono ?_; rintro e w6 ⟨rfl, hb6⟩
          have hC6 := hCs.below hb6
          have hF6 := hFs.below hb6
          have hB6 := hBs2.below hb6
          have HO7 := Lib.hid ((((((hOs.below hb6).set w2.heap.size (Q * 5) (.int .i64 a1)).set w2.heap.size (Q * 5 + 1) (.int .i64 a2)).set w2.heap.size (Q * 5 + 2) (.int .i64 a3)).set w2.heap.size (Q * 5 + 3) (.int .i64 a4)).set w2.heap.size (Q * 5 + 4) (.int .i64 a5))
          obtain ⟨⟨u0, q0⟩, f0⟩ := hC6 (Q * 5) (by omega)
          obtain ⟨⟨u1, q1⟩, f1⟩ := hC6 (Q * 5 + 1) (by omega)
          obtain ⟨⟨u2, q2⟩, f2⟩ := hC6 (Q * 5 + 2) (by omega)
          obtain ⟨⟨u3, q3⟩, f3⟩ := hC6 (Q * 5 + 3) (by omega)
          obtain ⟨⟨u4, q4⟩, f4⟩ := hC6 (Q * 5 + 4) (by omega)
          have hC6' : CellsAt w6 w2.heap.size (XS.length * 5) := by rw [HXL.out]; exact hC6
          have hS := Lib.hid (lay_on rowD_len hC6' hF6 hQX (((((w6.setCell ⟨w2.heap.size, Q * 5, none⟩ (.int .i64 a1)).setCell ⟨w2.heap.size, Q * 5 + 1, none⟩ (.int .i64 a2)).setCell ⟨w2.heap.size, Q * 5 + 2, none⟩ (.int .i64 a3)).setCell ⟨w2.heap.size, Q * 5 + 3, none⟩ (.int .i64 a4)).setCell ⟨w2.heap.size, Q * 5 + 4, none⟩ (.int .i64 a5)) (by rw [HXQ.out]; rfl))
          have U6 := Lib.hid ((Us.trans (UpdS.of_below (D := fun g => g = w2.heap.size ∨ g = w3.heap.size) hb6) (fun _ _ h => h)).trans (UpdS.of_grown (D := fun g => g = w2.heap.size ∨ g = w3.heap.size) hS.out.2.2 (fun k hk => by simp only [Option.some.injEq] at hk; exact Or.inl hk.symm)) (fun _ _ h => h))
          have HB7 := Lib.hid (hB6.upd hS.out.2.2 hne4)
          have HC7 : Hid (CellsAt _ w2.heap.size (P * 5)) := Lib.hid (by have h := hS.out.1; rw [HXL.out] at h; exact h)
          have HF7 := Lib.hid (hS.out.2.1.congr (S' := fun q => seenB p F (b + 1) q = true) (fun i hi h => by
            have h1 := HS.out i (by rw [← HXL.out]; exact hi)
            by_cases e : i = Q
            · exact Or.inl e
            · rw [if_neg e] at h1; exact Or.inr (h1.symm.trans h)))
          clear hC6 hC6' hF6 hB6 hCs hFs hBs2 hOs
          go_wp2
          go_roundw
          case rel => exact ⟨b + 1, by omega, by omega, by go_num, HB7.out, HC7.out, HF7.out, U6.out, HO7.out⟩
          case measure => simp [intOf]; omega
        · have HS := Lib.hid (fun (q : Nat) (hq : q < P) => seen_old HV.out hbF ha (by rw [hQ2]; exact hs) (q := q) (by omega))
          rw [hs] at c1
          clear ha
          go_wp2
          go_roundw
          case rel => exact ⟨b + 1, by omega, by omega, by go_num, hBo.congr (fun q hq => HS.out q hq), hC, hFi.congr (fun q hq h => by rw [← HS.out q (by rw [← HXL.out]; exact hq)]; exact h), U, hO⟩
          case measure => simp [intOf]; omega
    · obtain rfl : b = F + H := by omega
      have HS : Hid (∀ q : Nat, q < P → seenB p F (F + H) q = true) := fun q hq => seen_all HV.out (by omega) HMX.out
      have g0 : wr.cell? ⟨w.heap.size + 1, 0, none⟩ = some (.int .i64 0) := U.cell g0 (by omega)
      have g1 : wr.cell? ⟨w.heap.size + 1, 1, none⟩ = some (.slice none 0 0) := U.cell g1 (by omega)
      have e0 : wr.frozen? ⟨w.heap.size + 1, 0, none⟩ = false := by rw [World.frozen?_of_block (w := w4) (U.block (w.heap.size + 1) (by omega) (by omega))]; exact e0
      have e1 : wr.frozen? ⟨w.heap.size + 1, 1, none⟩ = false := by rw [World.frozen?_of_block (w := w4) (U.block (w.heap.size + 1) (by omega) (by omega))]; exact e1
      obtain ⟨X0, X1, -, hg⟩ := set2 wr (w.heap.size + 1) (.int .i64 t) (.slice (some ⟨w2.heap.size, 0, none⟩) P P) _ _ g0 g1
      have BZ := (BR.setCell (p := ⟨w.heap.size + 1, 0, none⟩) (Nat.le_succ _) (.int .i64 t)).setCell (p := ⟨w.heap.size + 1, 1, none⟩) (Nat.le_succ _) (.slice (some ⟨w2.heap.size, 0, none⟩) P P)
      have hne : w.heap.size + 1 ≠ w2.heap.size := by omega
      have hF2 := (hFi.set (j := 0) hne (.int .i64 t)).set (j := 1) hne (.slice (some ⟨w2.heap.size, 0, none⟩) P P)
      have hO2 := (hO.set (w.heap.size + 1) 0 (.int .i64 t)).set (w.heap.size + 1) 1 (.slice (some ⟨w2.heap.size, 0, none⟩) P P)
      have HRD := Lib.hid ((hO2.fin rowD_len (by decide) HXL.out (fun i hi => hF2 i hi (HS.out i (by rw [← HXL.out]; exact hi)))).wide (lo' := w.heap.size) (by omega) (Nat.le_refl _))
      clear hF2 hFi hC hBo hO hO2
      go_wp2
      generalize ((wr.setCell ⟨w.heap.size + 1, 0, none⟩ (.int .i64 t)).setCell ⟨w.heap.size + 1, 1, none⟩ (.slice (some ⟨w2.heap.size, 0, none⟩) P P)) = wz at *
      exact bodyPost_ret (v := .agg #[.int .i64 t, .slice (some ⟨w2.heap.size, 0, none⟩) P P]) (by simp [results, Try.results86, go_sem, X0, X1]) rfl ⟨_, rfl, HRD.out, BZ⟩
theorem c_impl_frame (p : List Int) (B D x t : Int) (v : Value) (w : World) (hr : RdI w v p) (hv : validP p = true) (hB : 2 ≤ B ∧ B ≤ 30) (hD : 1 ≤ D ∧ D ≤ 60) (hx : 0 ≤ x ∧ x ≤ 16) (ht : 0 ≤ t ∧ t ≤ 3000) :
    Calls Try.prog 86 #[v, .agg #[.int .i64 B, .int .i64 D], .int .i64 x, .int .i64 t] w fun e w' => ∃ u, e = .returned (.agg #[.int .i64 t, u]) ∧ RdRow 5 rowD w' u (dotsF p B D x t) ∧ Below w.heap.size w w' := by
  refine (c_impl_frameO p B D x t v w hr hv hB hD hx ht).mono ?_
  rintro e w' ⟨u, rfl, ho, hb⟩
  exact ⟨u, rfl, ho.rd rowD_len, hb⟩
end Go.Proofs.Ytpcaaohdlcoplaa
