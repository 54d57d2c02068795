/- FarS, FarP, ShortS: laid one behind the other. -/
import Derived.Test.YtpcaaohdlcoplaaShort
import Derived.Test.YtpcaaohdlcoplaaMemR
section
set_option linter.unusedVariables false
namespace Go.Proofs.Ytpcaaohdlcoplaa
open Go.ChangeShapes Go.WideShapes Go.ChangeAt Go.RowKit
set_option linter.unusedSimpArgs false
noncomputable def farL (n : Nat) (X : List (Int × Int × Int)) (s : Int) : List Int := (List.range n).map fun i : Nat => (dist (adjX X) s i).getD (-1)
def nextTo (n : Nat) (X : List (Int × Int × Int)) (i : Nat) : List (List Int) := (List.range n).map fun j : Nat => adjX (X.take i) (j : Int)
theorem nextTo_len (n : Nat) (X : List (Int × Int × Int)) (i : Nat) : (nextTo n X i).length = n := by simp [nextTo]
theorem nextTo_get {n : Nat} {X : List (Int × Int × Int)} {i j : Nat} (hj : j < n) : (nextTo n X i).getD j [] = adjX (X.take i) (j : Int) := by simp [nextTo, List.getD, hj]
theorem adjX_len (X : List (Int × Int × Int)) (k a0 : Nat) : (adjX (X.take k) (a0 : Int)).length ≤ X.length := by
  unfold adjX
  rw [List.length_map]
  exact Nat.le_trans (List.length_filter_le _ _) (List.length_take_le' _ _)
theorem nextTo_zero (n : Nat) (X : List (Int × Int × Int)) : nextTo n X 0 = List.replicate n [] := by
  rw [List.eq_replicate_iff]
  refine ⟨nextTo_len n X 0, fun b hb => ?_⟩
  obtain ⟨j, _, rfl⟩ := List.mem_map.1 hb
  rfl
theorem nextTo_all (n : Nat) (X : List (Int × Int × Int)) : nextTo n X X.length = (List.range n).map fun j : Nat => adjX X (j : Int) := by simp [nextTo]
theorem nextTo_succ {n : Nat} {X : List (Int × Int × Int)} {i a : Nat} {b c : Int} (hi : i < X.length) (hx : X[i] = ((a : Int), b, c)) (ha : a < n) :
    nextTo n X (i + 1) = (nextTo n X i).set a ((nextTo n X i).getD a [] ++ [c]) := by
  apply List.ext_getElem
  · simp [nextTo_len]
  · intro j h1 h2
    rw [nextTo_len] at h1
    rw [List.getElem_set]
    have hl : (nextTo n X (i + 1))[j]'(by rw [nextTo_len]; exact h1) = adjX (X.take (i + 1)) (j : Int) := by simp [nextTo]
    have hr : (nextTo n X i)[j]'(by rw [nextTo_len]; exact h1) = adjX (X.take i) (j : Int) := by simp [nextTo]
    rw [hl, hr, nextTo_get ha]
    have hs : adjX (X.take (i + 1)) (j : Int) = adjX (X.take i) (j : Int) ++ adjX [X[i]] (j : Int) := by
      unfold adjX
      rw [take_snoc _ _ hi, List.filter_append, List.map_append]
    rw [hs, hx]
    by_cases hja : a = j
    · subst hja
      rw [if_pos rfl]
      simp [adjX]
    · rw [if_neg hja]
      have : ((a : Int) == (j : Int)) = false := by simp; omega
      simp [adjX, this]
/-- the distances as they stand in the slice: -1 where none is known -/
def outOf (n : Nat) (f : Int → Option Int) : List Int := (List.range n).map fun i : Nat => (f i).getD (-1)
theorem outOf_len (n : Nat) (f : Int → Option Int) : (outOf n f).length = n := by simp [outOf]
theorem outOf_get {n : Nat} {f : Int → Option Int} {i : Nat} (hi : i < n) : (outOf n f).getD i 0 = (f i).getD (-1) := by simp [outOf, List.getD, hi]
theorem outOf_put {n : Nat} {f : Int → Option Int} {i : Nat} (c : Int) (hi : i < n) : (outOf n f).set i c = outOf n (fput' f i c) := by
  apply List.ext_getElem
  · simp [outOf_len]
  · intro j h1 h2
    rw [outOf_len] at h2
    rw [List.getElem_set]
    have e1 : (outOf n f)[j]'(by rw [outOf_len]; exact h2) = (f j).getD (-1) := by simp [outOf]
    have e2 : (outOf n (fput' f i c))[j]'(by rw [outOf_len]; exact h2) = (fput' f i c j).getD (-1) := by simp [outOf]
    rw [e1, e2]
    unfold fput'
    by_cases hji : i = j
    · subst hji; simp
    · rw [if_neg hji, if_neg (by omega)]
theorem outOf_none (n : Nat) : List.replicate n (-1) = outOf n (fun _ => none) := by
  symm
  rw [List.eq_replicate_iff]
  refine ⟨outOf_len n _, fun b hb => ?_⟩
  obtain ⟨j, _, rfl⟩ := List.mem_map.1 hb
  rfl
/-- the numbers less than n, as nodes -/
def nodesL (n : Nat) : List Int := (List.range n).map fun i : Nat => (i : Int)
theorem mem_nodesL {n : Nat} {y : Int} : y ∈ nodesL n ↔ 0 ≤ y ∧ y < n := by
  unfold nodesL
  rw [List.mem_map]
  constructor
  · rintro ⟨a, ha, rfl⟩
    have := List.mem_range.1 ha
    omega
  · rintro ⟨h0, h1⟩
    obtain ⟨a, rfl⟩ := Int.eq_ofNat_of_zero_le h0
    exact ⟨a, List.mem_range.2 (by omega), rfl⟩
theorem infoG : (Try.prog.info? 24).map (fun i => (i.zero, i.size, i.bytes)) = some (some (.slice none 0 0), 1, 24) := by kernel_rfl
set_option maxHeartbeats 4000000 in
set_option maxRecDepth 100000 in
theorem c_spec_l09Far (M : List Int) (X : List (Int × Int × Int)) (s : Int) (vm vx : Value) (w : World) (hm : RdI w vm M) (hx : RdRow 3 rowA w vx X) (hX : ∀ a ∈ X, (0 ≤ a.1 ∧ a.1 < M.length) ∧ (0 ≤ a.2.2 ∧ a.2.2 < M.length)) (hs : 0 ≤ s ∧ s < M.length) (hM : M.length ≤ 1024) (hXl : X.length ≤ 1000000) :
    Calls Try.prog 99 #[vm, vx, .int .i64 s] w fun e w' => ∃ v, e = .returned v ∧ OwnI1 w.heap.size w' v (farL M.length X s) ∧ Below w.heap.size w w' := by
  obtain ⟨am, capm, rfl, hml, _⟩ := hm
  go_enter Try.func99, Try.ntmps99
  go_wp2
  go_loopw [7, 8] (fun out i wr => ∃ k : Nat, k ≤ M.length ∧ i = .int .i64 k ∧ OwnI1 w.heap.size wr out (List.replicate k (-1)) ∧ Below w.heap.size w wr) (fun _ i _ => M.length - (intOf i).toNat)
  case atStart => exact ⟨0, by omega, rfl, OwnI.made rfl rfl (Nat.le_refl _), by (repeat (first | (with_reducible assumption) | (with_reducible exact Below.refl _ _) | (with_reducible refine Below.setCell ?_ (by first | (simp; done) | (simp; omega)) _) | (with_reducible refine Below.al ?_ _) | (with_reducible refine Below.dr ?_) | (with_reducible refine Below.drN ?_ _) | (with_reducible refine Below.tr ?_ (by with_reducible assumption))))⟩
  case round =>
    obtain ⟨k, hk, rfl, hout, hb0⟩ := hrel
    have hs0 := hb0.size
    by_cases hlt : k < M.length
    · have HR : Hid (List.replicate (k + 1) (-1 : Int) = List.replicate k (-1) ++ [-1]) := List.replicate_succ'
      have hll : (List.replicate k (-1 : Int)).length < 1000000000 := by simp; omega
      go_wp2_with (at_builtin; refine push_int rfl _ _ _ _ rfl Try.underlying24 infoI w.heap.size _ _ _ _ rfl rfl (by exact hout) hll hs0 ?_; intro v' w2 hown2 hb2 hs2)
      go_roundw
      case rel => exact ⟨k + 1, by omega, by go_num, by rw [HR.out]; exact hown2, hb2 _ hb0⟩
      case measure => simp [intOf]; omega
    · obtain rfl : k = M.length := by omega
      obtain ⟨s0, rfl⟩ := Int.eq_ofNat_of_zero_le hs.1
      have hsl : s0 < M.length := by omega
      have hlr : (List.replicate M.length (-1 : Int)).length = M.length := by simp
      have hsh := hout.shape
      rw [hlr] at hsh
      rcases hsh with ⟨_, hnil⟩ | ⟨g, cap, rfl, hg1, hg2, _, _, _, hfr⟩
      · exact absurd (congrArg List.length hnil) (by rw [List.length_replicate]; simp only [List.length_nil]; omega)
      obtain ⟨⟨old, hold⟩, hfz⟩ := hout.at s0 (by simpa using hsl)
      have hst := OwnI.store (xs := List.replicate M.length (-1)) (by rw [hlr]; exact hout) s0 0
      have hlo : OwnIR 2 w.heap.size wr.heap.size (wr.setCell ⟨g, s0, none⟩ (.int .i64 0)) (.slice (some ⟨g, 0, none⟩) M.length cap) ((List.replicate M.length (-1)).set s0 0) := by
        have h1 := hst.1.ir
        simpa using h1
      have hbs : Below w.heap.size w (wr.setCell ⟨g, s0, none⟩ (.int .i64 0)) := hb0.setCell hg1 _
      clear hst hold hfz hout
      go_wp2
      obtain ⟨W1, hW1⟩ : ∃ W1, W1 = wr.setCell ⟨g, s0, none⟩ (.int .i64 0) := ⟨_, rfl⟩
      have hWs : W1.heap.size = wr.heap.size := by rw [hW1]; simp
      rw [← hW1] at hlo hbs ⊢
      rw [← hWs] at hlo ⊢
      have hg2' : g < W1.heap.size := by omega
      clear hW1 hWs hg2
      obtain ⟨W2, hW2⟩ : ∃ W2, W2 = (W1.alloc (Obj.cells #[Value.int IntKind.i64 s0] 2)).alloc (Obj.cells #[] 24) := ⟨_, rfl⟩
      have hlo2 : OwnIR 2 w.heap.size W1.heap.size W2 (.slice (some ⟨g, 0, none⟩) M.length cap) ((List.replicate M.length (-1)).set s0 0) := by rw [hW2]; exact (hlo.al _).al _
      have B2 : Below w.heap.size w W2 := by rw [hW2]; (repeat (first | (with_reducible assumption) | (with_reducible exact Below.refl _ _) | (with_reducible refine Below.setCell ?_ (by first | (simp; done) | (simp; omega)) _) | (with_reducible refine Below.al ?_ _) | (with_reducible refine Below.dr ?_) | (with_reducible refine Below.drN ?_ _) | (with_reducible refine Below.tr ?_ (by with_reducible assumption))))
      have hW2s : W2.heap.size = W1.heap.size + 2 := by rw [hW2]; simp
      have hqe : OwnI1 W1.heap.size W2 (.slice (some ⟨W1.heap.size, 0, none⟩) 1 1) [(s0 : Int)] := by
        rw [hW2]
        refine OwnI.al ?_ _
        exact World.ownsRow_lit (w := W1) #[Value.int IntKind.i64 s0] 1 (Nat.le_refl _) (by decide) rfl
      have hG2 : OwnG 24 2 (W1.heap.size + 1) W2.heap.size W2 (.slice (some ⟨W1.heap.size + 1, 0, none⟩) 0 0) (List.replicate 0 []) := by
        have := OwnG.made (ES := 24) (e := 2) (lo := W1.heap.size + 1) (g := W1.heap.size + 1) (w := W1.alloc (Obj.cells #[Value.int IntKind.i64 s0] 2)) (by simp) (by simp)
        rw [hW2]
        simpa using this
      rw [← hW2]
      clear hW2 hlo hbs hb0
      have hws := B2.size
      go_loopw [10, 11] (fun nx i wr => ∃ k : Nat, k ≤ M.length ∧ i = .int .i64 k ∧ OwnG 24 2 (W1.heap.size + 1) wr.heap.size wr nx (List.replicate k []) ∧ Below (W1.heap.size + 1) W2 wr) (fun _ i _ => M.length - (intOf i).toNat)
      case atStart => exact ⟨0, by omega, rfl, hG2, Below.refl _ _⟩
      case round =>
        obtain ⟨k, hk, rfl, hG, hbn⟩ := hrel
        have hs3 := hbn.size
        by_cases hlt : k < M.length
        · have HR : Hid (List.replicate (k + 1) ([] : List Int) = List.replicate k [] ++ [[]]) := List.replicate_succ'
          have hll : (List.replicate k ([] : List Int)).length < 1000000000 := by simp; omega
          go_wp2_with ((at_builtin; refine push_g rfl _ _ _ rfl Try.underlying136 infoG _ _ (.slice (some ⟨wr.heap.size, 0, none⟩) 0 0) [] (wr.alloc (Obj.cells #[] 2)) rfl (by rw [World.size_alloc]; rfl) (by exact hG.al _) (OwnI.made rfl rfl (by omega)) (fun b hb => by simp only [Value.ownBlock, Option.some.injEq] at hb; omega) rfl hll (by rw [World.size_alloc]; omega) ?_; intro v' w3 hG3 hg3 hat3 hs3'))
          go_roundw
          case rel => exact ⟨k + 1, by omega, by go_num, by rw [HR.out]; exact hG3, by
            have h1 : Below (W1.heap.size + 1) W2 (wr.alloc (Obj.cells #[] 2)) := hbn.alloc (by omega) _
            refine h1.grown hg3 (by rw [World.size_alloc]; omega) (fun b hb => ?_)
            obtain ⟨_, _, h2, _⟩ := hG
            exact (World.ownsRow.lt h2 b hb).1⟩
          case measure => simp [intOf]; omega
        · obtain rfl : k = M.length := by omega
          have hG0 : OwnG 24 2 (W1.heap.size + 1) wr.heap.size wr u10 (nextTo M.length X 0) := by rw [nextTo_zero]; exact hG
          clear hG hlt hk
          obtain ⟨ax, capx, rfl, hxl, hxc⟩ := hx
          obtain ⟨gn, nn, capn, rfl, hnn, hnc, hcm, hgn1, hgn2, hgn3⟩ := hG0.shape (fun e => by have := nextTo_len M.length X 0; rw [e] at this; simp at this; omega)
          rw [nextTo_len] at hnn
          subst hnn
          go_wp2
          go_loopw [12] (fun i wr => ∃ k : Nat, k ≤ X.length ∧ i = .int .i64 k ∧ OwnG 24 2 (W1.heap.size + 1) wr.heap.size wr (.slice (some ⟨gn, 0, none⟩) M.length capn) (nextTo M.length X k) ∧ Below (W1.heap.size + 1) W2 wr) (fun i _ => X.length - (intOf i).toNat)
          case atStart => exact ⟨0, by omega, rfl, hG0, hbn⟩
          case round =>
            clear hG0 hbn
            obtain ⟨k, hk, rfl, hG, hbn⟩ := hrel
            have hs3 := hbn.size
            by_cases hlt : k < X.length
            · obtain ⟨b1, o1, rfl, hxx⟩ := hxc k hlt
              obtain ⟨⟨xa, xb, xc⟩, hxk⟩ : ∃ x, X[k] = x := ⟨_, rfl⟩
              have hab := hX X[k] (List.getElem_mem hlt)
              rw [hxk] at hxx hab
              obtain ⟨a0, rfl⟩ := Int.eq_ofNat_of_zero_le hab.1.1
              obtain ⟨c0, rfl⟩ := Int.eq_ofNat_of_zero_le hab.2.1
              have ha0 : a0 < M.length := by have := hab.1.2; simp at this; omega
              have hb1 : b1 < w.heap.size := World.block_lt_of_cell? w _ (hxx 0 _ rfl)
              have y0 : wr.cell? ⟨b1, o1 + k * 3, none⟩ = some (.int .i64 (a0 : Int)) := by
                rw [hbn.cell (p := ⟨b1, o1 + k * 3, none⟩) (by show b1 < _; omega), B2.cell (p := ⟨b1, o1 + k * 3, none⟩) hb1]; exact hxx 0 _ rfl
              have y2 : wr.cell? ⟨b1, o1 + k * 3 + 2, none⟩ = some (.int .i64 (c0 : Int)) := by
                rw [hbn.cell (p := ⟨b1, o1 + k * 3 + 2, none⟩) (by show b1 < _; omega), B2.cell (p := ⟨b1, o1 + k * 3 + 2, none⟩) hb1]; exact hxx 2 _ rfl
              have HK := Lib.hid (nextTo_succ hlt hxk ha0)
              obtain ⟨u, hu, huf, hur, hug, hback⟩ := hG.get a0 (by rw [nextTo_len]; exact ha0)
              clear hxx hxk hab
              have hlr2 := adjX_len X k a0
              have hll : ((nextTo M.length X k).getD a0 []).length < 1000000000 := by rw [nextTo_get ha0]; omega
              have hk0 : (0 : Int) ≤ (k : Int) := Int.natCast_nonneg _
              have hk1 : (k : Int) < (X.length : Int) := by omega
              have ha1 : (0 : Int) ≤ (a0 : Int) := Int.natCast_nonneg _
              have ha2 : (a0 : Int) < (M.length : Int) := by omega
              have hbr : b1 < wr.heap.size := by omega
              have hgr : gn < wr.heap.size := World.block_lt_of_cell? wr _ hu
              have hub : u.ownBlock ≠ some b1 := fun e => by have := (World.ownsRow.lt hur.1 b1 e).1; omega
              have hne1 : ¬ wr.heap.size = b1 := by omega
              have hne2 : ¬ wr.heap.size = gn := by omega
              have hne3 : ¬ gn = b1 := by omega
              go_wp2_with fail
              refine wp_region_noPanic ?_
              refine wp_region_held_drew (S := fun w' => w'.cell? ⟨b1, o1 + k * 3, none⟩ = some (.int .i64 (a0 : Int)) ∧ w'.cell? ⟨b1, o1 + k * 3 + 2, none⟩ = some (.int .i64 (c0 : Int))) (by kernel_rfl) ?_ (fun hHeld => ?_)
              · go_keep
              (refine wpAnyH_take (i := 0) (v := ?tv1) rfl (by kernel_rfl) (by kernel_rfl) (by kernel_rfl) (fun _ _ _ h => h) (Or.inl ⟨by rfl, ?thy1⟩) (by assumption) ?trest1; case thy1 => (intro w hSw; (try dsimp only at hSw); go_simp; (try with_reducible rfl)); (try simp only [Act.put, List.getElem_toArray, List.getElem_cons_zero, List.getElem_cons_succ, List.setIfInBounds_toArray, List.set_cons_zero, List.set_cons_succ])); (refine wpAnyH_take (i := 1) (v := ?tv2) rfl (by kernel_rfl) (by kernel_rfl) (by kernel_rfl) (fun _ _ _ h => h) (Or.inl ⟨by rfl, ?thy2⟩) (by assumption) ?trest2; case thy2 => (intro w hSw; (try dsimp only at hSw); go_simp; (try with_reducible rfl)); (try simp only [Act.put, List.getElem_toArray, List.getElem_cons_zero, List.getElem_cons_succ, List.setIfInBounds_toArray, List.set_cons_zero, List.set_cons_succ])); (refine wpAnyH_take (i := 2) (v := ?tv3) rfl (by kernel_rfl) (by kernel_rfl) (by kernel_rfl) (fun _ _ _ h => h) (Or.inl ⟨by rfl, ?thy3⟩) (by assumption) ?trest3; case thy3 => (intro w hSw; (try dsimp only at hSw); go_simp; (try with_reducible rfl)); (try simp only [Act.put, List.getElem_toArray, List.getElem_cons_zero, List.getElem_cons_succ, List.setIfInBounds_toArray, List.set_cons_zero, List.set_cons_succ])); (refine wpAnyH_take (i := 3) (v := ?tv4) rfl (by kernel_rfl) (by kernel_rfl) (by kernel_rfl) (fun _ _ _ h => h) (Or.inl ⟨by rfl, ?thy4⟩) (by assumption) ?trest4; case thy4 => (intro w hSw; (try dsimp only at hSw); go_simp; (try with_reducible rfl)); (try simp only [Act.put, List.getElem_toArray, List.getElem_cons_zero, List.getElem_cons_succ, List.setIfInBounds_toArray, List.set_cons_zero, List.set_cons_succ])); (refine wpAnyH_take (i := 4) (v := ?tv5) rfl (by kernel_rfl) (by kernel_rfl) (by kernel_rfl) (fun _ _ _ h => h) (Or.inl ⟨by rfl, ?thy5⟩) (by assumption) ?trest5; case thy5 => (intro w hSw; (try dsimp only at hSw); go_simp; (try with_reducible rfl)); (try simp only [Act.put, List.getElem_toArray, List.getElem_cons_zero, List.getElem_cons_succ, List.setIfInBounds_toArray, List.set_cons_zero, List.set_cons_succ])); (refine wpAnyH_take (i := 5) (v := ?tv6) rfl (by kernel_rfl) (by kernel_rfl) (by kernel_rfl) (fun _ _ _ h => h) (Or.inl ⟨by rfl, ?thy6⟩) (by assumption) ?trest6; case thy6 => (intro w hSw; (try dsimp only at hSw); go_simp; (try with_reducible rfl)); (try simp only [Act.put, List.getElem_toArray, List.getElem_cons_zero, List.getElem_cons_succ, List.setIfInBounds_toArray, List.set_cons_zero, List.set_cons_succ])); (refine wpAnyH_take (i := 6) (v := ?tv7) rfl (by kernel_rfl) (by kernel_rfl) (by kernel_rfl) (fun _ _ _ h => h) (Or.inl ⟨by rfl, ?thy7⟩) (by assumption) ?trest7; case thy7 => (intro w hSw; (try dsimp only at hSw); go_simp; (try with_reducible rfl)); (try simp only [Act.put, List.getElem_toArray, List.getElem_cons_zero, List.getElem_cons_succ, List.setIfInBounds_toArray, List.set_cons_zero, List.set_cons_succ])); (refine wpAnyH_take (i := 7) (v := ?tv8) rfl (by kernel_rfl) (by kernel_rfl) (by kernel_rfl) (fun _ _ _ h => h) (Or.inl ⟨by rfl, ?thy8⟩) (by assumption) ?trest8; case thy8 => (intro w hSw; (try dsimp only at hSw); go_simp; (try with_reducible rfl)); (try simp only [Act.put, List.getElem_toArray, List.getElem_cons_zero, List.getElem_cons_succ, List.setIfInBounds_toArray, List.set_cons_zero, List.set_cons_succ])); (refine wpAnyH_take (i := 8) (v := ?tv9) rfl (by kernel_rfl) (by kernel_rfl) (by kernel_rfl) (fun _ _ _ h => h) (Or.inl ⟨by rfl, ?thy9⟩) (by assumption) ?trest9; case thy9 => (intro w hSw; (try dsimp only at hSw); go_simp; (try with_reducible rfl)); (try simp only [Act.put, List.getElem_toArray, List.getElem_cons_zero, List.getElem_cons_succ, List.setIfInBounds_toArray, List.set_cons_zero, List.set_cons_succ])); (refine wpAnyH_take (i := 9) (v := ?tv10) rfl (by kernel_rfl) (by kernel_rfl) (by kernel_rfl) (fun _ _ _ h => h) (Or.inl ⟨by rfl, ?thy10⟩) (by assumption) ?trest10; case thy10 => (intro w hSw; (try dsimp only at hSw); go_simp; (try with_reducible rfl)); (try simp only [Act.put, List.getElem_toArray, List.getElem_cons_zero, List.getElem_cons_succ, List.setIfInBounds_toArray, List.set_cons_zero, List.set_cons_succ])); (refine wpAnyH_take (i := 10) (v := ?tv11) rfl (by kernel_rfl) (by kernel_rfl) (by kernel_rfl) (fun _ _ _ h => h) (Or.inl ⟨by rfl, ?thy11⟩) (by assumption) ?trest11; case thy11 => (intro w hSw; (try dsimp only at hSw); go_simp; (try with_reducible rfl)); (try simp only [Act.put, List.getElem_toArray, List.getElem_cons_zero, List.getElem_cons_succ, List.setIfInBounds_toArray, List.set_cons_zero, List.set_cons_succ])); (refine wpAnyH_take (i := 11) (v := ?tv12) rfl (by kernel_rfl) (by kernel_rfl) (by kernel_rfl) (fun _ _ _ h => h) (Or.inl ⟨by rfl, ?thy12⟩) (by assumption) ?trest12; case thy12 => (intro w hSw; (try dsimp only at hSw); go_simp; (try with_reducible rfl)); (try simp only [Act.put, List.getElem_toArray, List.getElem_cons_zero, List.getElem_cons_succ, List.setIfInBounds_toArray, List.set_cons_zero, List.set_cons_succ])); (refine wpAnyH_take (i := 12) (v := ?tv13) rfl (by kernel_rfl) (by kernel_rfl) (by kernel_rfl) (fun _ _ _ h => h) (Or.inl ⟨by rfl, ?thy13⟩) (by assumption) ?trest13; case thy13 => (intro w hSw; (try dsimp only at hSw); go_simp; (try with_reducible rfl)); (try simp only [Act.put, List.getElem_toArray, List.getElem_cons_zero, List.getElem_cons_succ, List.setIfInBounds_toArray, List.set_cons_zero, List.set_cons_succ])); (refine wpAnyH_take (i := 14) (v := ?tv14) rfl (by kernel_rfl) (by kernel_rfl) (by kernel_rfl) (fun _ _ _ h => h) (Or.inl ⟨by rfl, ?thy14⟩) (by assumption) ?trest14; case thy14 => (intro w hSw; (try dsimp only at hSw); go_simp; (try with_reducible rfl)); (try simp only [Act.put, List.getElem_toArray, List.getElem_cons_zero, List.getElem_cons_succ, List.setIfInBounds_toArray, List.set_cons_zero, List.set_cons_succ])); (refine wpAnyH_take (i := 15) (v := ?tv15) rfl (by kernel_rfl) (by kernel_rfl) (by kernel_rfl) (fun _ _ _ h => h) (Or.inl ⟨by rfl, ?thy15⟩) (by assumption) ?trest15; case thy15 => (intro w hSw; (try dsimp only at hSw); go_simp; (try with_reducible rfl)); (try simp only [Act.put, List.getElem_toArray, List.getElem_cons_zero, List.getElem_cons_succ, List.setIfInBounds_toArray, List.set_cons_zero, List.set_cons_succ])); (refine wpAnyH_take (i := 16) (v := ?tv16) rfl (by kernel_rfl) (by kernel_rfl) (by kernel_rfl) (fun _ _ _ h => h) (Or.inl ⟨by rfl, ?thy16⟩) (by assumption) ?trest16; case thy16 => (intro w hSw; (try dsimp only at hSw); go_simp; (try with_reducible rfl)); (try simp only [Act.put, List.getElem_toArray, List.getElem_cons_zero, List.getElem_cons_succ, List.setIfInBounds_toArray, List.set_cons_zero, List.set_cons_succ])); (refine wpAnyH_take (i := 17) (v := ?tv17) rfl (by kernel_rfl) (by kernel_rfl) (by kernel_rfl) (fun _ _ _ h => h) (Or.inl ⟨by rfl, ?thy17⟩) (by assumption) ?trest17; case thy17 => (intro w hSw; (try dsimp only at hSw); go_simp; (try with_reducible rfl)); (try simp only [Act.put, List.getElem_toArray, List.getElem_cons_zero, List.getElem_cons_succ, List.setIfInBounds_toArray, List.set_cons_zero, List.set_cons_succ])); (refine wpAnyH_take (i := 18) (v := ?tv18) rfl (by kernel_rfl) (by kernel_rfl) (by kernel_rfl) (fun _ _ _ h => h) (Or.inl ⟨by rfl, ?thy18⟩) (by assumption) ?trest18; case thy18 => (intro w hSw; (try dsimp only at hSw); go_simp; (try with_reducible rfl)); (try simp only [Act.put, List.getElem_toArray, List.getElem_cons_zero, List.getElem_cons_succ, List.setIfInBounds_toArray, List.set_cons_zero, List.set_cons_succ]))
              refine wpAnyH_ready (rs := [13, 19]) (by kernel_rfl) (by simp) ?_
              refine AllReadyH.cons (i := 13) rfl (fun K hK => ?_) ?_
              · go_simp
                refine hK.out _ _ ?_ (fun hHeld => ?_)
                · go_keep
                clear hK K
                (try simp only [Act.put, List.getElem_toArray, List.getElem_cons_zero, List.getElem_cons_succ, List.setIfInBounds_toArray, List.set_cons_zero, List.set_cons_succ])
                refine wpAnyH_ready (rs := [19]) (by kernel_rfl) (by simp) ?_; refine AllReadyH.cons (i := 19) rfl (fun K hK => ?_) AllReadyH.nil
                go_simp
                refine hK.out _ _ (by first | assumption | go_keep) (fun hHeld => ?_); clear hK K; (try simp only [Act.put, List.getElem_toArray, List.getElem_cons_zero, List.getElem_cons_succ, List.setIfInBounds_toArray, List.set_cons_zero, List.set_cons_succ])
                refine wpAnyH_ready (rs := [20]) (by kernel_rfl) (by simp) ?_; refine AllReadyH.cons (i := 20) rfl (fun K hK => ?_) AllReadyH.nil
                refine step_push_row (row := rowI) rfl _ _ _ _ rfl Try.underlying24 (.int .i64 0) 8 infoI rfl (by decide) (by decide) rowI_len (W1.heap.size + 1) wr.heap.size wr.heap.size u ((nextTo M.length X k).getD a0 []) (c0 : Int) #[.int .i64 (c0 : Int)] _ rfl (rowI_one _) rfl rfl (heap_alloc_new wr _) (OwnRow.al hur.row _) hll (Nat.le_trans (by omega) (Nat.le_of_lt (Nat.lt_of_lt_of_le (Nat.lt_succ_self _) (Nat.le_of_eq (World.size_alloc wr _).symm)))) ?_
                intro v7 w7 hown7 hg7 hat7 hs7
                have r1 := grown_cell hg7 _ _ _ y0 hub
                have r2 := grown_cell hg7 _ _ _ y2 hub
                have r3 := grown_cell hg7 _ _ _ hu hug
                have r4 := grown_frozen hg7 _ _ hgr huf hug
                obtain ⟨gq, n7, cq, rfl⟩ := OwnRow.form hown7 (by simp)
                have hd := hback w7 _ _ hown7.ints.1 (grownBy_trans (grownBy_ald wr _ _) hg7) (hat7.imp id (fun h => ⟨_, h, by rw [size_ald]; omega⟩)) hgn1
                rw [← HK.out] at hd
                have hBa : Below (W1.heap.size + 1) W2 (wr.alloc (Obj.cells #[Value.int IntKind.i64 (c0 : Int)] 2)).drew := (hbn.alloc (by omega) _).drew
                have hB7 := hBa.grown hg7 (by rw [size_ald]; omega) (fun q hq => (World.ownsRow.lt hur.1 q hq).1)
                refine hK.out _ _ (by first | assumption | go_keep) (fun hHeld => ?_); clear hK K; (try simp only [Act.put, List.getElem_toArray, List.getElem_cons_zero, List.getElem_cons_succ, List.setIfInBounds_toArray, List.set_cons_zero, List.set_cons_succ])
                (refine wpAnyH_take (i := 21) (v := ?tv19) rfl (by kernel_rfl) (by kernel_rfl) (by kernel_rfl) (fun _ _ _ h => h) (Or.inl ⟨by rfl, ?thy19⟩) (by assumption) ?trest19; case thy19 => (intro w hSw; (try dsimp only at hSw); go_simp; (try with_reducible rfl)); (try simp only [Act.put, List.getElem_toArray, List.getElem_cons_zero, List.getElem_cons_succ, List.setIfInBounds_toArray, List.set_cons_zero, List.set_cons_succ]))
                refine wpAnyH_ready (rs := [22]) (by kernel_rfl) (by simp) ?_; refine AllReadyH.cons (i := 22) rfl (fun K hK => ?_) AllReadyH.nil
                go_simp
                refine hK.out _ _ (by first | assumption | go_keep) (fun hHeld => ?_); clear hK K; (try simp only [Act.put, List.getElem_toArray, List.getElem_cons_zero, List.getElem_cons_succ, List.setIfInBounds_toArray, List.set_cons_zero, List.set_cons_succ])
                refine wpAnyH_done (by kernel_rfl) ?_ _
                refine NoPanic.normal ?_
                go_wp2
                go_roundw
                case rel => exact ⟨k + 1, by omega, by go_num, hd.tight, hB7.setCell (by omega) _⟩
                case measure => simp [intOf]; omega
              refine AllReadyH.cons (i := 19) rfl (fun K hK => ?_) AllReadyH.nil
              · go_simp
                refine hK.out _ _ (by first | assumption | go_keep) (fun hHeld => ?_); clear hK K; (try simp only [Act.put, List.getElem_toArray, List.getElem_cons_zero, List.getElem_cons_succ, List.setIfInBounds_toArray, List.set_cons_zero, List.set_cons_succ])
                refine wpAnyH_ready (rs := [13]) (by kernel_rfl) (by simp) ?_; refine AllReadyH.cons (i := 13) rfl (fun K hK => ?_) AllReadyH.nil
                go_simp
                refine hK.out _ _ (by first | assumption | go_keep) (fun hHeld => ?_); clear hK K; (try simp only [Act.put, List.getElem_toArray, List.getElem_cons_zero, List.getElem_cons_succ, List.setIfInBounds_toArray, List.set_cons_zero, List.set_cons_succ])
                refine wpAnyH_ready (rs := [20]) (by kernel_rfl) (by simp) ?_; refine AllReadyH.cons (i := 20) rfl (fun K hK => ?_) AllReadyH.nil
                refine step_push_row (row := rowI) rfl _ _ _ _ rfl Try.underlying24 (.int .i64 0) 8 infoI rfl (by decide) (by decide) rowI_len (W1.heap.size + 1) wr.heap.size wr.heap.size u ((nextTo M.length X k).getD a0 []) (c0 : Int) #[.int .i64 (c0 : Int)] _ rfl (rowI_one _) rfl rfl (heap_alloc_new wr _) (OwnRow.al hur.row _) hll (Nat.le_trans (by omega) (Nat.le_of_lt (Nat.lt_of_lt_of_le (Nat.lt_succ_self _) (Nat.le_of_eq (World.size_alloc wr _).symm)))) ?_
                intro v7 w7 hown7 hg7 hat7 hs7
                have r1 := grown_cell hg7 _ _ _ y0 hub
                have r2 := grown_cell hg7 _ _ _ y2 hub
                have r3 := grown_cell hg7 _ _ _ hu hug
                have r4 := grown_frozen hg7 _ _ hgr huf hug
                obtain ⟨gq, n7, cq, rfl⟩ := OwnRow.form hown7 (by simp)
                have hd := hback w7 _ _ hown7.ints.1 (grownBy_trans (grownBy_ald wr _ _) hg7) (hat7.imp id (fun h => ⟨_, h, by rw [size_ald]; omega⟩)) hgn1
                rw [← HK.out] at hd
                have hBa : Below (W1.heap.size + 1) W2 (wr.alloc (Obj.cells #[Value.int IntKind.i64 (c0 : Int)] 2)).drew := (hbn.alloc (by omega) _).drew
                have hB7 := hBa.grown hg7 (by rw [size_ald]; omega) (fun q hq => (World.ownsRow.lt hur.1 q hq).1)
                refine hK.out _ _ (by first | assumption | go_keep) (fun hHeld => ?_); clear hK K; (try simp only [Act.put, List.getElem_toArray, List.getElem_cons_zero, List.getElem_cons_succ, List.setIfInBounds_toArray, List.set_cons_zero, List.set_cons_succ])
                (refine wpAnyH_take (i := 21) (v := ?tv20) rfl (by kernel_rfl) (by kernel_rfl) (by kernel_rfl) (fun _ _ _ h => h) (Or.inl ⟨by rfl, ?thy20⟩) (by assumption) ?trest20; case thy20 => (intro w hSw; (try dsimp only at hSw); go_simp; (try with_reducible rfl)); (try simp only [Act.put, List.getElem_toArray, List.getElem_cons_zero, List.getElem_cons_succ, List.setIfInBounds_toArray, List.set_cons_zero, List.set_cons_succ]))
                refine wpAnyH_ready (rs := [22]) (by kernel_rfl) (by simp) ?_; refine AllReadyH.cons (i := 22) rfl (fun K hK => ?_) AllReadyH.nil
                go_simp
                refine hK.out _ _ (by first | assumption | go_keep) (fun hHeld => ?_); clear hK K; (try simp only [Act.put, List.getElem_toArray, List.getElem_cons_zero, List.getElem_cons_succ, List.setIfInBounds_toArray, List.set_cons_zero, List.set_cons_succ])
                refine wpAnyH_done (by kernel_rfl) ?_ _
                refine NoPanic.normal ?_
                go_wp2
                go_roundw
                case rel => exact ⟨k + 1, by omega, by go_num, hd.tight, hB7.setCell (by omega) _⟩
                case measure => simp [intOf]; omega
            · obtain rfl : k = X.length := by omega
              rw [nextTo_all] at hG
              have hZ := hG.shape (fun e => by have h1 := congrArg List.length e; rw [List.length_map, List.length_range] at h1; simp only [List.length_nil] at h1; omega)
              obtain ⟨gz, nz, cz, hez, -, -, -, hgz1, hgz2, -⟩ := hZ
              cases hez
              have hZ0 : W1.heap.size + 2 ≤ wr.heap.size := by omega
              obtain ⟨Z, HZ⟩ : ∃ Z, Hid (Z = wr.heap.size) := ⟨_, rfl⟩
              have hZ1 : W1.heap.size + 2 ≤ Z := by rw [HZ.out]; exact hZ0
              have hlo3 : OwnIR 2 w.heap.size W1.heap.size wr (.slice (some ⟨g, 0, none⟩) M.length cap) (outOf M.length (fput' (fun _ => none) s0 0)) := by
                rw [← outOf_put 0 hsl, ← outOf_none]
                exact hlo2.block fun b hb => hbn.block b (Nat.lt_succ_of_lt (hlo2.2 b hb))
              have hqe3 : OwnI1 W1.heap.size wr (.slice (some ⟨W1.heap.size, 0, none⟩) 1 1) [(s0 : Int)] := owns_block hqe fun b hb => hbn.block b (by simp only [Value.ownBlock, Option.some.injEq] at hb; rw [← hb]; exact Nat.lt_succ_self _)
              have B3 : Below w.heap.size w wr := B2.trans (hbn.mono (by omega))
              have hB0 := Lib.hid (Bfs.first (adjX X) (s0 : Int))
              have hO0 : Hid (∀ y ∈ [(s0 : Int)], y ∈ nodesL M.length) := fun y hy => by rw [List.mem_singleton.1 hy]; exact mem_nodesL.2 (by omega)
              have hX' : Hid (∀ i : Int, ∀ y ∈ adjX X i, y ∈ nodesL M.length) := by
                intro i y hy
                obtain ⟨a, ha, rfl⟩ := List.mem_map.1 hy
                exact mem_nodesL.2 (hX a (List.mem_filter.1 ha).1).2
              have HFX : Hid (∀ f, f = dist (adjX X) s0 → outOf M.length f = farL M.length X s0) := fun f hf => by rw [hf]; rfl
              have hnl : (nodesL M.length).length = M.length := by simp [nodesL]
              have hadl : Hid (∀ i, (adjX X i).length ≤ 1000000) := fun i => by
                unfold adjX
                rw [List.length_map]
                exact Nat.le_trans (List.length_filter_le _ _) hXl
              obtain ⟨W3, rfl⟩ : ∃ W3 : World, W3 = wr := ⟨_, rfl⟩
              clear hlo2 hqe hbn hG2 B2 hlt hk hX
              go_wp2
              go_loopg [9, 13] M.length (fun gh q i wr => ∃ (O : List Int) (f : Int → Option Int) (k : Nat), k + gh = M.length ∧ i = .int .i64 k ∧ k ≤ O.length ∧ Hid (∀ y ∈ O, y ∈ nodesL M.length) ∧ Hid (Bfs (adjX X) s0 O f k []) ∧
                OwnI1 W1.heap.size wr q O ∧ Hid (∀ b, q.ownBlock = some b → b < W1.heap.size + 1 ∨ Z ≤ b) ∧ OwnIR 2 w.heap.size W1.heap.size wr (.slice (some ⟨g, 0, none⟩) M.length cap) (outOf M.length f) ∧
                Same (W1.heap.size + 1) Z W3 wr ∧ Below w.heap.size w wr)
              case atStart => exact ⟨[(s0 : Int)], _, 0, by omega, rfl, by simp, hO0, hB0, hqe3, fun b hb => Or.inl (by simp only [Value.ownBlock, Option.some.injEq] at hb; omega), hlo3, Same.refl (Nat.le_of_eq HZ.out), B3⟩
              case round =>
                clear hlo3 hqe3 B3 hB0 hO0
                obtain ⟨O, f, k, hkg, rfl, hkO, hOL, hB, hq, hoff, hlo, hsm, hbr⟩ := hrel
                have hOlen := hB.out.len hOL.out
                rw [hnl] at hOlen
                have hsm1 := hsm.1
                have hs3 := hbr.size
                obtain ⟨wo, rfl⟩ : ∃ wo : World, wo = wr := ⟨_, rfl⟩
                rcases OwnI.shape hq with ⟨_, hnil⟩ | ⟨gq, capq, rfl, hq1, hq2, hq3, hq4, hqc, _⟩
                · exact absurd hnil (fun e => by have h1 := (hB.out.dom s0).2 (by rw [hB.out.start]; rfl); rw [e] at h1; cases h1)
                by_cases hlt : k < O.length
                · have hx0 := mem_nodesL.1 (hOL.out _ (getD_mem hlt))
                  have y0 := hqc k hlt
                  obtain ⟨x, Hx⟩ : ∃ x : Nat, Hid (O.getD k 0 = (x : Int)) := ⟨(O.getD k 0).toNat, by unfold Hid; omega⟩
                  rw [Hx.out] at hx0 y0
                  have hxn : x < M.length := by omega
                  obtain ⟨u, hu, _, hur, _, _⟩ := hG.get x (by simpa using hxn)
                  have hux : (((List.range M.length).map fun j : Nat => adjX X (j : Int)).getD x []) = adjX X x := by simp [List.getD, hxn]
                  rw [hux] at hur
                  have hrl := World.ownsRow.lt hur.1
                  obtain ⟨au, capu, rfl, hul, huc⟩ := hur.rd
                  have hgnZ : W1.heap.size + 1 ≤ gn ∧ gn < Z := ⟨hgz1, by have := HZ.out; omega⟩
                  have z0 : wo.cell? ⟨gn, x, none⟩ = some (.slice au (adjX X x).length capu) := by rw [hsm.cell hgnZ.1 hgnZ.2]; exact hu
                  have HTX : Hid (∀ j, j < (adjX X x).length → (adjX X x).getD j 0 ∈ nodesL M.length) := fun j hj => hX'.out x _ (getD_mem hj)
                  have hTl := hadl.out x
                  have HTA : Hid (adjX X (O.getD k 0) = adjX X x) := by unfold Hid; rw [Hx.out]
                  obtain ⟨T, HT⟩ : ∃ T, Hid (adjX X x = T) := ⟨_, rfl⟩
                  rw [HT.out] at HTX hTl HTA hul huc z0
                  have hu0 := hu
                  rw [HT.out] at hu0
                  clear hur hu hux hqc
                  have hcapq := hq4
                  go_wp2
                  go_loopw [9, 15] (fun q i wr => ∃ (j : Nat) (O : List Int) (f : Int → Option Int), j ≤ T.length ∧ i = .int .i64 j ∧ k < O.length ∧ Hid (O.getD k 0 = (x : Int)) ∧ Hid (∀ y ∈ O, y ∈ nodesL M.length) ∧ Hid (Bfs (adjX X) s0 O f k (T.take j)) ∧
                    OwnI1 W1.heap.size wr q O ∧ Hid (∀ b, q.ownBlock = some b → b < W1.heap.size + 1 ∨ Z ≤ b) ∧ OwnIR 2 w.heap.size W1.heap.size wr (.slice (some ⟨g, 0, none⟩) M.length cap) (outOf M.length f) ∧
                    Same (W1.heap.size + 1) Z W3 wr ∧ Below w.heap.size w wr) (fun _ i _ => T.length - (intOf i).toNat)
                  case atStart => exact ⟨0, O, f, by omega, rfl, hlt, Hx, hOL, by rw [List.take_zero]; exact hB, hq, hoff, hlo, hsm, hbr⟩
                  case round =>
                    clear hq hoff hlo hsm hbr hB hOL Hx hlt hkO hOlen hq1 hq2 hq3 hq4 hcapq y0 z0 hsm1 hs3
                    obtain ⟨j, O, f, hj, rfl, hlt, Hx, hOL, hB, hq, hoff, hlo, hsm, hbr⟩ := hrel
                    have hsm1 := hsm.1
                    have hs3 := hbr.size
                    have z0 : wr.cell? ⟨gn, x, none⟩ = some (.slice au T.length capu) := by rw [hsm.cell hgnZ.1 hgnZ.2]; exact hu0
                    by_cases hjlt : j < T.length
                    · obtain ⟨bt, ot, rfl, ht⟩ := huc j hjlt
                      have hbt := hrl bt rfl
                      have ht' : wr.cell? ⟨bt, ot + j, none⟩ = some (.int .i64 (T.getD j 0)) := by rw [hsm.cell hbt.1 (by rw [HZ.out]; exact hbt.2)]; exact ht
                      have hy0 := mem_nodesL.1 (HTX.out j hjlt)
                      have HK : Hid (T.take (j + 1) = T.take j ++ [T.getD j 0]) := by
                        unfold Hid
                        rw [take_snoc _ _ hjlt]; simp [List.getD, hjlt]
                      have hya : Hid (T.getD j 0 ∈ adjX X (O.getD k 0)) := by
                        unfold Hid
                        rw [Hx.out, HT.out]
                        exact getD_mem hjlt
                      obtain ⟨y, Hy⟩ : ∃ y : Nat, Hid (T.getD j 0 = (y : Int)) := ⟨(T.getD j 0).toNat, by unfold Hid; omega⟩
                      rw [Hy.out] at ht' hy0 HK hya
                      have hyn : y < M.length := by omega
                      have hyL := Lib.hid (mem_nodesL.2 hy0)
                      have hcy := (OwnI.cell hlo.1 y (by rw [outOf_len]; exact hyn))
                      have hcx := (OwnI.cell hlo.1 x (by rw [outOf_len]; exact hxn))
                      rw [outOf_get hyn] at hcy
                      rw [outOf_get hxn] at hcx
                      have hfx := hB.out.bound k hlt
                      have hmx := hB.out.mem (getD_mem hlt)
                      rw [Hx.out] at hfx hmx
                      have hOlen := hB.out.len hOL.out
                      rw [hnl] at hOlen
                      obtain ⟨hcx1, hcx2⟩ := hcx
                      obtain ⟨hcy1, hcy2⟩ := hcy
                      rw [hmx] at hcx1
                      have hdx : 0 ≤ (f (x : Int)).getD 0 ∧ (f (x : Int)).getD 0 ≤ 1024 := by omega
                      have hpx : Hid (f (x : Int) = some ((f (x : Int)).getD 0)) := hmx
                      have hoM := outOf_len M.length f
                      clear ht hmx hfx huc
                      cases hseen : (f (y : Int)).isSome
                      · have HS := Lib.hid hseen
                        have hfy : f (y : Int) = none := by simpa using hseen
                        rw [hfy] at hcy1
                        obtain ⟨dx, Hdx⟩ : ∃ dx, Hid ((f (x : Int)).getD 0 = dx) := ⟨_, rfl⟩
                        rw [Hdx.out] at hdx hcx1
                        have hst := OwnI.store (xs := outOf M.length f) (by rw [hoM]; exact hlo.1) y (dx + 1)
                        rw [hoM, outOf_put _ hyn] at hst
                        have hbs : Below w.heap.size w (wr.setCell ⟨g, y, none⟩ (.int .i64 (dx + 1))) := hbr.setCell hg1 _
                        have hug : Upd w.heap.size W1.heap.size wr (wr.setCell ⟨g, y, none⟩ (.int .i64 (dx + 1))) := Upd.of_grown hst.2 (fun b hb => by simp only [Option.some.injEq] at hb; omega)
                        have hsms := hsm.upd hug (Or.inl (by omega))
                        have hqs : OwnI1 W1.heap.size (wr.setCell ⟨g, y, none⟩ (.int .i64 (dx + 1))) u9 O := hq.setBelow hg2' _
                        have hll : O.length < 1000000000 := by omega
                        clear hfy hseen hug
                        have HZ6 : Hid ((wr.setCell ⟨g, y, none⟩ (.int .i64 (dx + 1))).heap.size = wr.heap.size) := by unfold Hid; simp
                        go_wp2_with (at_builtin; refine push_int_at rfl _ _ _ _ rfl Try.underlying24 infoI W1.heap.size _ _ _ (wr.setCell ⟨g, y, none⟩ (.int .i64 (dx + 1))) rfl (by rw [HZ6.out]; rfl) (by exact hqs) hll (by rw [HZ6.out]; omega) ?_; intro v6 w6 hq6 hg6 hat6 hs6)
                        have hlo6 : OwnIR 2 w.heap.size W1.heap.size w6 (.slice (some ⟨g, 0, none⟩) M.length cap) (outOf M.length (fput' f y (dx + 1))) := by
                          have h1 : OwnIR 2 w.heap.size W1.heap.size (wr.setCell ⟨g, y, none⟩ (.int .i64 (dx + 1))) (.slice (some ⟨g, 0, none⟩) M.length cap) (outOf M.length (fput' f y (dx + 1))) := ⟨hst.1, fun b hb => by simp only [Value.ownBlock, Option.some.injEq] at hb; omega⟩
                          exact h1.off hg6 (fun b hb => Or.inr (World.ownsRow.lt hqs b hb).1)
                        have hsz6 := HZ6.out
                        have hBn := hB.out.new hlt HS.out hya.out
                        rw [Hx.out, Hdx.out] at hBn
                        go_roundw
                        case rel => exact ⟨j + 1, O ++ [(y : Int)], fput' f y (dx + 1), by omega, by go_num, by rw [List.length_append]; omega,
                          by unfold Hid; rw [List.getD_eq_getElem?_getD, List.getElem?_append_left hlt, ← List.getD_eq_getElem?_getD]; exact Hx.out,
                          fun z hz => by
                            rcases List.mem_append.1 hz with hz | hz
                            · exact hOL.out z hz
                            · rw [List.mem_singleton.1 hz]; exact hyL.out,
                          by rw [HK.out]; exact Lib.hid hBn, hq6, fun b hb => by
                            rcases hat6 with he | he
                            · exact hoff.out b (he.symm.trans hb)
                            · rw [he, hsz6] at hb; simp only [Option.some.injEq] at hb; right; omega, hlo6,
                          hsms.grown hg6 (fun b hb => by have := hoff.out b hb; omega), hbs.grown hg6 (by rw [hsz6]; omega) (fun b hb => by have := (World.ownsRow.lt hqs b hb).1; omega)⟩
                        case measure => simp [intOf]; omega
                      · have HS := Lib.hid hseen
                        obtain ⟨i1, hi1, hi2⟩ := List.getElem_of_mem ((hB.out.dom (y : Int)).2 hseen)
                        have hby := hB.out.bound i1 hi1
                        rw [show O.getD i1 0 = (y : Int) by simp [List.getD, hi1, hi2]] at hby
                        have hmy := hB.out.mem ((hB.out.dom (y : Int)).2 hseen)
                        rw [hmy] at hcy1
                        have hdy : 0 ≤ (f (y : Int)).getD 0 := hby.1
                        have hnot : ¬ (f (y : Int)).getD 0 < 0 := by omega
                        clear hmy hby hi2 hseen
                        obtain ⟨dy, Hdy⟩ : ∃ dy, Hid ((f (y : Int)).getD 0 = dy) := ⟨_, rfl⟩
                        have hcy1' : wr.cell? ⟨g, y, none⟩ = some (.int .i64 dy) := by rw [hcy1, ← Hdy.out]; rfl
                        rw [Hdy.out] at hnot hdy
                        clear hcy1
                        go_wp2
                        go_roundw
                        case rel => exact ⟨j + 1, O, f, by omega, by go_num, hlt, Hx, hOL, by rw [HK.out]; exact Lib.hid (hB.out.old hlt HS.out), hq, hoff, hlo, hsm, hbr⟩
                        case measure => simp [intOf]; omega
                    · have hBn := Lib.hid (hB.out.next hlt (fun y hy => by
                        rw [Hx.out, HT.out] at hy
                        rw [List.take_of_length_le (by omega)]
                        exact hy))
                      have hOlen := hB.out.len hOL.out
                      rw [hnl] at hOlen
                      clear huc
                      go_wp2
                      go_roundg (gk - 1)
                      case measure => omega
                      case rel => exact ⟨O, f, k + 1, by omega, by go_num, by omega, hOL, hBn, hq, hoff, hlo, hsm, hbr⟩
                · obtain rfl : k = O.length := by omega
                  have hfin := hB.out.all hlt
                  have HF := Lib.hid (HFX.out f hfin)
                  clear hfin hqc
                  go_wp2
                  go_ret
                  exact ⟨_, rfl, by rw [← HF.out]; exact hlo.1, hbr⟩
end Go.Proofs.Ytpcaaohdlcoplaa
end
section
set_option linter.unusedVariables false
namespace Go.Proofs.Ytpcaaohdlcoplaa
open Go.ChangeShapes Go.WideShapes Go.ChangeAt Go.RowKit
theorem arcs_bd {n h : Int} (hh : 1 ≤ h ∧ h ≤ 10) : ∀ a ∈ arcsL (maskL n h) h, (0 ≤ a.1 ∧ a.1 < (maskL n h).length) ∧ (0 ≤ a.2.2 ∧ a.2.2 < (maskL n h).length) := by
  intro a ha
  unfold arcsL arcsTo at ha
  obtain ⟨i, hi, ha⟩ := List.mem_flatMap.1 ha
  have hi := List.mem_range.1 hi
  obtain ⟨t, ht, rfl⟩ := List.mem_map.1 ha
  have hc := ((mem_throwsL (by omega)).1 ht).2
  have hm := next_mem hh (getD_mem hi) hc
  have := idx_lt hm
  exact ⟨⟨Int.natCast_nonneg _, Int.ofNat_lt.2 hi⟩, ⟨Int.natCast_nonneg _, Int.ofNat_lt.2 this⟩⟩
theorem farL_eq {n h m : Int} (hh : 1 ≤ h ∧ h ≤ 10) (hm : m ∈ maskL n h) : farL (maskL n h).length (arcsL (maskL n h) h) (idxI (maskL n h) m) = (maskL n h).map (farM h m) := by
  apply List.ext_getElem
  · simp [farL]
  · intro i h1 h2
    have hi : i < (maskL n h).length := by simpa using h2
    have hmi : (maskL n h)[i] ∈ maskL n h := List.getElem_mem hi
    have hidx : idxI (maskL n h) (maskL n h)[i] = (i : Int) := by
      unfold idxI
      rw [idx_at (nodup_of_sorted (maskL_sorted n h)) i hi]
    have hd := dist_idx hh hm hmi
    rw [hidx] at hd
    simp only [farL, List.getElem_map, List.getElem_range, hd]
    rfl
theorem arcs_len' (n h : Int) (hh : 1 ≤ h ∧ h ≤ 10) : (arcsL (maskL n h) h).length ≤ 1000000 := by
  have h1 := arcsTo_len (maskL n h) h (maskL n h).length (by omega)
  have h2 := maskL_len n h hh
  unfold arcsL
  omega
end Go.Proofs.Ytpcaaohdlcoplaa
end
section
set_option linter.unusedVariables false
namespace Go.Proofs.Ytpcaaohdlcoplaa
open Go.ChangeShapes Go.WideShapes Go.ChangeAt Go.RowKit
set_option linter.unusedSimpArgs false
theorem RdI.same {lo hi : Nat} {a b : World} {v : Value} {xs : List Int} (h : RdI a v xs) (hs : Same lo hi a b) (hl : ∀ k, v.ownBlock = some k → lo ≤ k ∧ k < hi) : RdI b v xs := by
  obtain ⟨ad, cap, hv, hn, hc⟩ := h
  refine ⟨ad, cap, hv, hn, fun k hk => ?_⟩
  obtain ⟨bl, off, ha, hcell⟩ := hc k hk
  have hb := hl bl (by rw [hv, ha]; rfl)
  exact ⟨bl, off, ha, by rw [hs.cell hb.1 hb.2]; exact hcell⟩
theorem farL_back {n h b : Int} (hh : 1 ≤ h ∧ h ≤ 10) (hb : b ∈ maskL n h) : farL (maskL n h).length (backL (maskL n h) h) (idxI (maskL n h) b) = (maskL n h).map (fun y => farM h y b) := by
  apply List.ext_getElem
  · simp [farL]
  · intro i h1 h2
    have hi : i < (maskL n h).length := by simpa using h2
    have hmi : (maskL n h)[i] ∈ maskL n h := List.getElem_mem hi
    have hidx : idxI (maskL n h) (maskL n h)[i] = (i : Int) := by
      unfold idxI
      rw [idx_at (nodup_of_sorted (maskL_sorted n h)) i hi]
    have hd := dist_back hh hb hmi
    rw [hidx] at hd
    simp only [farL, List.getElem_map, List.getElem_range, hd]
    rfl
def backTo (X : List (Int × Int × Int)) (k : Nat) : List (Int × Int × Int) := (X.take k).map fun a => (a.2.2, (0 : Int), a.1)
theorem backTo_succ {X : List (Int × Int × Int)} {k : Nat} (hk : k < X.length) : backTo X (k + 1) = backTo X k ++ [(X[k].2.2, 0, X[k].1)] := by
  unfold backTo
  rw [take_snoc _ _ hk, List.map_append]; rfl
theorem backTo_len (X : List (Int × Int × Int)) (k : Nat) : (backTo X k).length ≤ X.length := by
  unfold backTo
  rw [List.length_map]
  exact List.length_take_le' _ _
theorem backTo_all (L : List Int) (h : Int) : backTo (arcsL L h) (arcsL L h).length = backL L h := by
  unfold backTo backL
  rw [List.take_length]
theorem mapFar_at {L : List Int} {h b x : Int} (hx : x ∈ L) : (L.map (fun y => farM h y b)).getD (idx L x) 0 = farM h x b := by
  have hl := idx_lt hx
  have hg := idx_get hx
  simp [List.getD, hl, hg]
end Go.Proofs.Ytpcaaohdlcoplaa
end
