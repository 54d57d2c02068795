/- The law LinesX: what it rests on, part 11 of 46. -/
import Derived.Deep.LoopGhost
import Derived.Test.YtioemkdapoombaaGreatDoorQLinesX04
import Derived.Test.YtioemkdapoombaaGreatDoorQLinesX05
import Derived.Test.YtioemkdapoombaaGreatDoorQLinesX06
import Derived.Test.YtioemkdapoombaaGreatDoorQLinesX07
section
set_option linter.unusedVariables false
namespace Go.Proofs.YtioemkdapoombaaGreatDoor
open Go.ChangeShapes Go.WideShapes Go.ChangeAt Go.RowKit
set_option linter.unusedSimpArgs false
noncomputable def farL (n : Nat) (X : List (Int × Int × Int)) (s : Int) : List Int := (List.range n).map fun i : Nat => (dist (adjX X) s i).getD (-1)
def nextTo (n : Nat) (X : List (Int × Int × Int)) (i : Nat) : List (List Int) := (List.range n).map fun j : Nat => adjX (X.take i) (j : Int)
theorem nextTo_len (n : Nat) (X : List (Int × Int × Int)) (i : Nat) : (nextTo n X i).length = n := by simp [nextTo]
theorem nextTo_get {n : Nat} {X : List (Int × Int × Int)} {i j : Nat} (hj : j < n) : (nextTo n X i).getD j [] = adjX (X.take i) (j : Int) := by simp [nextTo, List.getD, hj]
theorem adjX_len (X : List (Int × Int × Int)) (k a0 : Nat) : (adjX (X.take k) (a0 : Int)).length ≤ X.length := by
  unfold adjX
  rw [List.length_map]
  exact Nat.le_trans (List.length_filter_le _ _) (List.length_take_le' _ _)
theorem nextTo_zero (n : Nat) (X : List (Int × Int × Int)) : nextTo n X 0 = List.replicate n [] := by
  rw [List.eq_replicate_iff]
  refine ⟨nextTo_len n X 0, fun b hb => ?_⟩
  obtain ⟨j, _, rfl⟩ := List.mem_map.1 hb
  rfl
theorem nextTo_all (n : Nat) (X : List (Int × Int × Int)) : nextTo n X X.length = (List.range n).map fun j : Nat => adjX X (j : Int) := by simp [nextTo]
theorem nextTo_succ {n : Nat} {X : List (Int × Int × Int)} {i a : Nat} {b c : Int} (hi : i < X.length) (hx : X[i] = ((a : Int), b, c)) (ha : a < n) :
    nextTo n X (i + 1) = (nextTo n X i).set a ((nextTo n X i).getD a [] ++ [c]) := by
  apply List.ext_getElem
  · simp [nextTo_len]
  · intro j h1 h2
    rw [nextTo_len] at h1
    rw [List.getElem_set]
    have hl : (nextTo n X (i + 1))[j]'(by rw [nextTo_len]; exact h1) = adjX (X.take (i + 1)) (j : Int) := by simp [nextTo]
    have hr : (nextTo n X i)[j]'(by rw [nextTo_len]; exact h1) = adjX (X.take i) (j : Int) := by simp [nextTo]
    rw [hl, hr, nextTo_get ha]
    have hs : adjX (X.take (i + 1)) (j : Int) = adjX (X.take i) (j : Int) ++ adjX [X[i]] (j : Int) := by
      unfold adjX
      rw [take_snoc _ _ hi, List.filter_append, List.map_append]
    rw [hs, hx]
    by_cases hja : a = j
    · subst hja
      rw [if_pos rfl]
      simp [adjX]
    · rw [if_neg hja]
      have : ((a : Int) == (j : Int)) = false := by simp; omega
      simp [adjX, this]
/-- the distances as they stand in the slice: -1 where none is known -/
def outOf (n : Nat) (f : Int → Option Int) : List Int := (List.range n).map fun i : Nat => (f i).getD (-1)
theorem outOf_len (n : Nat) (f : Int → Option Int) : (outOf n f).length = n := by simp [outOf]
theorem outOf_get {n : Nat} {f : Int → Option Int} {i : Nat} (hi : i < n) : (outOf n f).getD i 0 = (f i).getD (-1) := by simp [outOf, List.getD, hi]
theorem outOf_put {n : Nat} {f : Int → Option Int} {i : Nat} (c : Int) (hi : i < n) : (outOf n f).set i c = outOf n (fput' f i c) := by
  apply List.ext_getElem
  · simp [outOf_len]
  · intro j h1 h2
    rw [outOf_len] at h2
    rw [List.getElem_set]
    have e1 : (outOf n f)[j]'(by rw [outOf_len]; exact h2) = (f j).getD (-1) := by simp [outOf]
    have e2 : (outOf n (fput' f i c))[j]'(by rw [outOf_len]; exact h2) = (fput' f i c j).getD (-1) := by simp [outOf]
    rw [e1, e2]
    unfold fput'
    by_cases hji : i = j
    · subst hji; simp
    · rw [if_neg hji, if_neg (by omega)]
theorem outOf_none (n : Nat) : List.replicate n (-1) = outOf n (fun _ => none) := by
  symm
  rw [List.eq_replicate_iff]
  refine ⟨outOf_len n _, fun b hb => ?_⟩
  obtain ⟨j, _, rfl⟩ := List.mem_map.1 hb
  rfl
/-- the numbers less than n, as nodes -/
def nodesL (n : Nat) : List Int := (List.range n).map fun i : Nat => (i : Int)
theorem mem_nodesL {n : Nat} {y : Int} : y ∈ nodesL n ↔ 0 ≤ y ∧ y < n := by
  unfold nodesL
  rw [List.mem_map]
  constructor
  · rintro ⟨a, ha, rfl⟩
    have := List.mem_range.1 ha
    omega
  · rintro ⟨h0, h1⟩
    obtain ⟨a, rfl⟩ := Int.eq_ofNat_of_zero_le h0
    exact ⟨a, List.mem_range.2 (by omega), rfl⟩
theorem infoG : (Tryz.prog.info? 26).map (fun i => (i.zero, i.size, i.bytes)) = some (some (.slice none 0 0), 1, 24) := by kernel_rfl
set_option maxHeartbeats 4000000 in
set_option maxRecDepth 100000 in
theorem c_spec_l09Far (M : List Int) (X : List (Int × Int × Int)) (s : Int) (vm vx : Value) (w : World) (hm : RdI w vm M) (hx : RdRow 3 rowA w vx X) (hX : ∀ a ∈ X, (0 ≤ a.1 ∧ a.1 < M.length) ∧ (0 ≤ a.2.2 ∧ a.2.2 < M.length)) (hs : 0 ≤ s ∧ s < M.length) (hM : M.length ≤ 1024) (hXl : X.length ≤ 1000000) :
    Calls Tryz.prog 149 #[vm, vx, .int .i64 s] w fun e w' => ∃ v, e = .returned v ∧ OwnI1 w.heap.size w' v (farL M.length X s) ∧ Below w.heap.size w w' := by
  obtain ⟨am, capm, rfl, hml, _⟩ := hm
  go_enter Tryz.func149, Tryz.ntmps149
  go_wp2
  go_loopw [7, 8] (fun out i wr => ∃ k : Nat, k ≤ M.length ∧ i = .int .i64 k ∧ OwnI1 w.heap.size wr out (List.replicate k (-1)) ∧ Below w.heap.size w wr) (fun _ i _ => M.length - (intOf i).toNat)
  case atStart => exact ⟨0, by omega, rfl, OwnI.made rfl rfl (Nat.le_refl _), by (repeat (first | (with_reducible assumption) | (with_reducible exact Below.refl _ _) | (with_reducible refine Below.setCell ?_ (by first | (simp; done) | (simp; omega)) _) | (with_reducible refine Below.al ?_ _) | (with_reducible refine Below.dr ?_) | (with_reducible refine Below.drN ?_ _) | (with_reducible refine Below.tr ?_ (by with_reducible assumption))))⟩
  case round =>
    obtain ⟨k, hk, rfl, hout, hb0⟩ := hrel
    have hs0 := hb0.size
    by_cases hlt : k < M.length
    · have HR : Hid (List.replicate (k + 1) (-1 : Int) = List.replicate k (-1) ++ [-1]) := List.replicate_succ'
      have hll : (List.replicate k (-1 : Int)).length < 1000000000 := by simp; omega
      go_wp2_with (at_builtin; refine push_int rfl _ _ _ _ rfl Tryz.underlying26 infoI w.heap.size _ _ _ _ rfl rfl (by exact hout) hll hs0 ?_; intro v' w2 hown2 hb2 hs2)
      go_roundw
      case rel => exact ⟨k + 1, by omega, by go_num, by rw [HR.out]; exact hown2, hb2 _ hb0⟩
      case measure => simp [intOf]; omega
    · obtain rfl : k = M.length := by omega
      obtain ⟨s0, rfl⟩ := Int.eq_ofNat_of_zero_le hs.1
      have hsl : s0 < M.length := by omega
      have hlr : (List.replicate M.length (-1 : Int)).length = M.length := by simp
      have hsh := hout.shape
      rw [hlr] at hsh
      rcases hsh with ⟨_, hnil⟩ | ⟨g, cap, rfl, hg1, hg2, _, _, _, hfr⟩
      · exact absurd (congrArg List.length hnil) (by rw [List.length_replicate]; simp only [List.length_nil]; omega)
      obtain ⟨⟨old, hold⟩, hfz⟩ := hout.at s0 (by simpa using hsl)
      have hst := OwnI.store (xs := List.replicate M.length (-1)) (by rw [hlr]; exact hout) s0 0
      have hlo : OwnIR 2 w.heap.size wr.heap.size (wr.setCell ⟨g, s0, none⟩ (.int .i64 0)) (.slice (some ⟨g, 0, none⟩) M.length cap) ((List.replicate M.length (-1)).set s0 0) := by
        have h1 := hst.1.ir
        simpa using h1
      have hbs : Below w.heap.size w (wr.setCell ⟨g, s0, none⟩ (.int .i64 0)) := hb0.setCell hg1 _
      clear hst hold hfz hout
      go_wp2
      obtain ⟨W1, hW1⟩ : ∃ W1, W1 = wr.setCell ⟨g, s0, none⟩ (.int .i64 0) := ⟨_, rfl⟩
      have hWs : W1.heap.size = wr.heap.size := by rw [hW1]; simp
      rw [← hW1] at hlo hbs ⊢
      rw [← hWs] at hlo ⊢
      have hg2' : g < W1.heap.size := by omega
      clear hW1 hWs hg2
      obtain ⟨W2, hW2⟩ : ∃ W2, W2 = (W1.alloc (Obj.cells #[Value.int IntKind.i64 s0] 2)).alloc (Obj.cells #[] 26) := ⟨_, rfl⟩
      have hlo2 : OwnIR 2 w.heap.size W1.heap.size W2 (.slice (some ⟨g, 0, none⟩) M.length cap) ((List.replicate M.length (-1)).set s0 0) := by rw [hW2]; exact (hlo.al _).al _
      have B2 : Below w.heap.size w W2 := by rw [hW2]; (repeat (first | (with_reducible assumption) | (with_reducible exact Below.refl _ _) | (with_reducible refine Below.setCell ?_ (by first | (simp; done) | (simp; omega)) _) | (with_reducible refine Below.al ?_ _) | (with_reducible refine Below.dr ?_) | (with_reducible refine Below.drN ?_ _) | (with_reducible refine Below.tr ?_ (by with_reducible assumption))))
      have hW2s : W2.heap.size = W1.heap.size + 2 := by rw [hW2]; simp
      have hqe : OwnI1 W1.heap.size W2 (.slice (some ⟨W1.heap.size, 0, none⟩) 1 1) [(s0 : Int)] := by
        rw [hW2]
        refine OwnI.al ?_ _
        exact World.ownsRow_lit (w := W1) #[Value.int IntKind.i64 s0] 1 (Nat.le_refl _) (by decide) rfl
      have hG2 : OwnG 26 2 (W1.heap.size + 1) W2.heap.size W2 (.slice (some ⟨W1.heap.size + 1, 0, none⟩) 0 0) (List.replicate 0 []) := by
        have := OwnG.made (ES := 26) (e := 2) (lo := W1.heap.size + 1) (g := W1.heap.size + 1) (w := W1.alloc (Obj.cells #[Value.int IntKind.i64 s0] 2)) (by simp) (by simp)
        rw [hW2]
        simpa using this
      rw [← hW2]
      clear hW2 hlo hbs hb0
      have hws := B2.size
      go_loopw [10, 11] (fun nx i wr => ∃ k : Nat, k ≤ M.length ∧ i = .int .i64 k ∧ OwnG 26 2 (W1.heap.size + 1) wr.heap.size wr nx (List.replicate k []) ∧ Below (W1.heap.size + 1) W2 wr) (fun _ i _ => M.length - (intOf i).toNat)
      case atStart => exact ⟨0, by omega, rfl, hG2, Below.refl _ _⟩
      case round =>
        obtain ⟨k, hk, rfl, hG, hbn⟩ := hrel
        have hs3 := hbn.size
        by_cases hlt : k < M.length
        · have HR : Hid (List.replicate (k + 1) ([] : List Int) = List.replicate k [] ++ [[]]) := List.replicate_succ'
          have hll : (List.replicate k ([] : List Int)).length < 1000000000 := by simp; omega
          go_wp2_with ((at_builtin; refine push_g rfl _ _ _ rfl Tryz.underlying66 infoG _ _ (.slice (some ⟨wr.heap.size, 0, none⟩) 0 0) [] (wr.alloc (Obj.cells #[] 2)) rfl (by rw [World.size_alloc]; rfl) (by exact hG.al _) (OwnI.made rfl rfl (by omega)) (fun b hb => by simp only [Value.ownBlock, Option.some.injEq] at hb; omega) rfl hll (by rw [World.size_alloc]; omega) ?_; intro v' w3 hG3 hg3 hat3 hs3'))
          go_roundw
          case rel => exact ⟨k + 1, by omega, by go_num, by rw [HR.out]; exact hG3, by
            have h1 : Below (W1.heap.size + 1) W2 (wr.alloc (Obj.cells #[] 2)) := hbn.alloc (by omega) _
            refine h1.grown hg3 (by rw [World.size_alloc]; omega) (fun b hb => ?_)
            obtain ⟨_, _, h2, _⟩ := hG
            exact (World.ownsRow.lt h2 b hb).1⟩
          case measure => simp [intOf]; omega
        · obtain rfl : k = M.length := by omega
          have hG0 : OwnG 26 2 (W1.heap.size + 1) wr.heap.size wr u10 (nextTo M.length X 0) := by rw [nextTo_zero]; exact hG
          clear hG hlt hk
          obtain ⟨ax, capx, rfl, hxl, hxc⟩ := hx
          obtain ⟨gn, nn, capn, rfl, hnn, hnc, hcm, hgn1, hgn2, hgn3⟩ := hG0.shape (fun e => by have := nextTo_len M.length X 0; rw [e] at this; simp at this; omega)
          rw [nextTo_len] at hnn
          subst hnn
          go_wp2
          go_loopw [12] (fun i wr => ∃ k : Nat, k ≤ X.length ∧ i = .int .i64 k ∧ OwnG 26 2 (W1.heap.size + 1) wr.heap.size wr (.slice (some ⟨gn, 0, none⟩) M.length capn) (nextTo M.length X k) ∧ Below (W1.heap.size + 1) W2 wr) (fun i _ => X.length - (intOf i).toNat)
          case atStart => exact ⟨0, by omega, rfl, hG0, hbn⟩
          case round =>
            clear hG0 hbn
            obtain ⟨k, hk, rfl, hG, hbn⟩ := hrel
            have hs3 := hbn.size
            by_cases hlt : k < X.length
            · obtain ⟨b1, o1, rfl, hxx⟩ := hxc k hlt
              obtain ⟨⟨xa, xb, xc⟩, hxk⟩ : ∃ x, X[k] = x := ⟨_, rfl⟩
              have hab := hX X[k] (List.getElem_mem hlt)
              rw [hxk] at hxx hab
              obtain ⟨a0, rfl⟩ := Int.eq_ofNat_of_zero_le hab.1.1
              obtain ⟨c0, rfl⟩ := Int.eq_ofNat_of_zero_le hab.2.1
              have ha0 : a0 < M.length := by have := hab.1.2; simp at this; omega
              have hb1 : b1 < w.heap.size := World.block_lt_of_cell? w _ (hxx 0 _ rfl)
              have y0 : wr.cell? ⟨b1, o1 + k * 3, none⟩ = some (.int .i64 (a0 : Int)) := by
                rw [hbn.cell (p := ⟨b1, o1 + k * 3, none⟩) (by show b1 < _; omega), B2.cell (p := ⟨b1, o1 + k * 3, none⟩) hb1]; exact hxx 0 _ rfl
              have y2 : wr.cell? ⟨b1, o1 + k * 3 + 2, none⟩ = some (.int .i64 (c0 : Int)) := by
                rw [hbn.cell (p := ⟨b1, o1 + k * 3 + 2, none⟩) (by show b1 < _; omega), B2.cell (p := ⟨b1, o1 + k * 3 + 2, none⟩) hb1]; exact hxx 2 _ rfl
              have HK := Lib.hid (nextTo_succ hlt hxk ha0)
              obtain ⟨u, hu, huf, hur, hug, hback⟩ := hG.get a0 (by rw [nextTo_len]; exact ha0)
              clear hxx hxk hab
              have hlr2 := adjX_len X k a0
              have hll : ((nextTo M.length X k).getD a0 []).length < 1000000000 := by rw [nextTo_get ha0]; omega
              have hk0 : (0 : Int) ≤ (k : Int) := Int.natCast_nonneg _
              have hk1 : (k : Int) < (X.length : Int) := by omega
              have ha1 : (0 : Int) ≤ (a0 : Int) := Int.natCast_nonneg _
              have ha2 : (a0 : Int) < (M.length : Int) := by omega
              have hbr : b1 < wr.heap.size := by omega
              have hgr : gn < wr.heap.size := World.block_lt_of_cell? wr _ hu
              have hub : u.ownBlock ≠ some b1 := fun e => by have := (World.ownsRow.lt hur.1 b1 e).1; omega
              have hne1 : ¬ wr.heap.size = b1 := by omega
              have hne2 : ¬ wr.heap.size = gn := by omega
              have hne3 : ¬ gn = b1 := by omega
              go_wp2_with fail
              refine wp_region_noPanic ?_
              refine wp_region_held_drew (S := fun w' => w'.cell? ⟨b1, o1 + k * 3, none⟩ = some (.int .i64 (a0 : Int)) ∧ w'.cell? ⟨b1, o1 + k * 3 + 2, none⟩ = some (.int .i64 (c0 : Int))) (by kernel_rfl) ?_ (fun hHeld => ?_)
              · go_keep
              (refine wpAnyH_take (i := 0) (v := ?tv1) rfl (by kernel_rfl) (by kernel_rfl) (by kernel_rfl) (fun _ _ _ h => h) (Or.inl ⟨by rfl, ?thy1⟩) (by assumption) ?trest1; case thy1 => (intro w hSw; (try dsimp only at hSw); go_simp; (try with_reducible rfl)); (try simp only [Act.put, List.getElem_toArray, List.getElem_cons_zero, List.getElem_cons_succ, List.setIfInBounds_toArray, List.set_cons_zero, List.set_cons_succ])); (refine wpAnyH_take (i := 1) (v := ?tv2) rfl (by kernel_rfl) (by kernel_rfl) (by kernel_rfl) (fun _ _ _ h => h) (Or.inl ⟨by rfl, ?thy2⟩) (by assumption) ?trest2; case thy2 => (intro w hSw; (try dsimp only at hSw); go_simp; (try with_reducible rfl)); (try simp only [Act.put, List.getElem_toArray, List.getElem_cons_zero, List.getElem_cons_succ, List.setIfInBounds_toArray, List.set_cons_zero, List.set_cons_succ])); (refine wpAnyH_take (i := 2) (v := ?tv3) rfl (by kernel_rfl) (by kernel_rfl) (by kernel_rfl) (fun _ _ _ h => h) (Or.inl ⟨by rfl, ?thy3⟩) (by assumption) ?trest3; case thy3 => (intro w hSw; (try dsimp only at hSw); go_simp; (try with_reducible rfl)); (try simp only [Act.put, List.getElem_toArray, List.getElem_cons_zero, List.getElem_cons_succ, List.setIfInBounds_toArray, List.set_cons_zero, List.set_cons_succ])); (refine wpAnyH_take (i := 3) (v := ?tv4) rfl (by kernel_rfl) (by kernel_rfl) (by kernel_rfl) (fun _ _ _ h => h) (Or.inl ⟨by rfl, ?thy4⟩) (by assumption) ?trest4; case thy4 => (intro w hSw; (try dsimp only at hSw); go_simp; (try with_reducible rfl)); (try simp only [Act.put, List.getElem_toArray, List.getElem_cons_zero, List.getElem_cons_succ, List.setIfInBounds_toArray, List.set_cons_zero, List.set_cons_succ])); (refine wpAnyH_take (i := 4) (v := ?tv5) rfl (by kernel_rfl) (by kernel_rfl) (by kernel_rfl) (fun _ _ _ h => h) (Or.inl ⟨by rfl, ?thy5⟩) (by assumption) ?trest5; case thy5 => (intro w hSw; (try dsimp only at hSw); go_simp; (try with_reducible rfl)); (try simp only [Act.put, List.getElem_toArray, List.getElem_cons_zero, List.getElem_cons_succ, List.setIfInBounds_toArray, List.set_cons_zero, List.set_cons_succ])); (refine wpAnyH_take (i := 5) (v := ?tv6) rfl (by kernel_rfl) (by kernel_rfl) (by kernel_rfl) (fun _ _ _ h => h) (Or.inl ⟨by rfl, ?thy6⟩) (by assumption) ?trest6; case thy6 => (intro w hSw; (try dsimp only at hSw); go_simp; (try with_reducible rfl)); (try simp only [Act.put, List.getElem_toArray, List.getElem_cons_zero, List.getElem_cons_succ, List.setIfInBounds_toArray, List.set_cons_zero, List.set_cons_succ])); (refine wpAnyH_take (i := 6) (v := ?tv7) rfl (by kernel_rfl) (by kernel_rfl) (by kernel_rfl) (fun _ _ _ h => h) (Or.inl ⟨by rfl, ?thy7⟩) (by assumption) ?trest7; case thy7 => (intro w hSw; (try dsimp only at hSw); go_simp; (try with_reducible rfl)); (try simp only [Act.put, List.getElem_toArray, List.getElem_cons_zero, List.getElem_cons_succ, List.setIfInBounds_toArray, List.set_cons_zero, List.set_cons_succ])); (refine wpAnyH_take (i := 7) (v := ?tv8) rfl (by kernel_rfl) (by kernel_rfl) (by kernel_rfl) (fun _ _ _ h => h) (Or.inl ⟨by rfl, ?thy8⟩) (by assumption) ?trest8; case thy8 => (intro w hSw; (try dsimp only at hSw); go_simp; (try with_reducible rfl)); (try simp only [Act.put, List.getElem_toArray, List.getElem_cons_zero, List.getElem_cons_succ, List.setIfInBounds_toArray, List.set_cons_zero, List.set_cons_succ])); (refine wpAnyH_take (i := 8) (v := ?tv9) rfl (by kernel_rfl) (by kernel_rfl) (by kernel_rfl) (fun _ _ _ h => h) (Or.inl ⟨by rfl, ?thy9⟩) (by assumption) ?trest9; case thy9 => (intro w hSw; (try dsimp only at hSw); go_simp; (try with_reducible rfl)); (try simp only [Act.put, List.getElem_toArray, List.getElem_cons_zero, List.getElem_cons_succ, List.setIfInBounds_toArray, List.set_cons_zero, List.set_cons_succ])); (refine wpAnyH_take (i := 9) (v := ?tv10) rfl (by kernel_rfl) (by kernel_rfl) (by kernel_rfl) (fun _ _ _ h => h) (Or.inl ⟨by rfl, ?thy10⟩) (by assumption) ?trest10; case thy10 => (intro w hSw; (try dsimp only at hSw); go_simp; (try with_reducible rfl)); (try simp only [Act.put, List.getElem_toArray, List.getElem_cons_zero, List.getElem_cons_succ, List.setIfInBounds_toArray, List.set_cons_zero, List.set_cons_succ])); (refine wpAnyH_take (i := 10) (v := ?tv11) rfl (by kernel_rfl) (by kernel_rfl) (by kernel_rfl) (fun _ _ _ h => h) (Or.inl ⟨by rfl, ?thy11⟩) (by assumption) ?trest11; case thy11 => (intro w hSw; (try dsimp only at hSw); go_simp; (try with_reducible rfl)); (try simp only [Act.put, List.getElem_toArray, List.getElem_cons_zero, List.getElem_cons_succ, List.setIfInBounds_toArray, List.set_cons_zero, List.set_cons_succ])); (refine wpAnyH_take (i := 11) (v := ?tv12) rfl (by kernel_rfl) (by kernel_rfl) (by kernel_rfl) (fun _ _ _ h => h) (Or.inl ⟨by rfl, ?thy12⟩) (by assumption) ?trest12; case thy12 => (intro w hSw; (try dsimp only at hSw); go_simp; (try with_reducible rfl)); (try simp only [Act.put, List.getElem_toArray, List.getElem_cons_zero, List.getElem_cons_succ, List.setIfInBounds_toArray, List.set_cons_zero, List.set_cons_succ])); (refine wpAnyH_take (i := 12) (v := ?tv13) rfl (by kernel_rfl) (by kernel_rfl) (by kernel_rfl) (fun _ _ _ h => h) (Or.inl ⟨by rfl, ?thy13⟩) (by assumption) ?trest13; case thy13 => (intro w hSw; (try dsimp only at hSw); go_simp; (try with_reducible rfl)); (try simp only [Act.put, List.getElem_toArray, List.getElem_cons_zero, List.getElem_cons_succ, List.setIfInBounds_toArray, List.set_cons_zero, List.set_cons_succ])); (refine wpAnyH_take (i := 14) (v := ?tv14) rfl (by kernel_rfl) (by kernel_rfl) (by kernel_rfl) (fun _ _ _ h => h) (Or.inl ⟨by rfl, ?thy14⟩) (by assumption) ?trest14; case thy14 => (intro w hSw; (try dsimp only at hSw); go_simp; (try with_reducible rfl)); (try simp only [Act.put, List.getElem_toArray, List.getElem_cons_zero, List.getElem_cons_succ, List.setIfInBounds_toArray, List.set_cons_zero, List.set_cons_succ])); (refine wpAnyH_take (i := 15) (v := ?tv15) rfl (by kernel_rfl) (by kernel_rfl) (by kernel_rfl) (fun _ _ _ h => h) (Or.inl ⟨by rfl, ?thy15⟩) (by assumption) ?trest15; case thy15 => (intro w hSw; (try dsimp only at hSw); go_simp; (try with_reducible rfl)); (try simp only [Act.put, List.getElem_toArray, List.getElem_cons_zero, List.getElem_cons_succ, List.setIfInBounds_toArray, List.set_cons_zero, List.set_cons_succ])); (refine wpAnyH_take (i := 16) (v := ?tv16) rfl (by kernel_rfl) (by kernel_rfl) (by kernel_rfl) (fun _ _ _ h => h) (Or.inl ⟨by rfl, ?thy16⟩) (by assumption) ?trest16; case thy16 => (intro w hSw; (try dsimp only at hSw); go_simp; (try with_reducible rfl)); (try simp only [Act.put, List.getElem_toArray, List.getElem_cons_zero, List.getElem_cons_succ, List.setIfInBounds_toArray, List.set_cons_zero, List.set_cons_succ])); (refine wpAnyH_take (i := 17) (v := ?tv17) rfl (by kernel_rfl) (by kernel_rfl) (by kernel_rfl) (fun _ _ _ h => h) (Or.inl ⟨by rfl, ?thy17⟩) (by assumption) ?trest17; case thy17 => (intro w hSw; (try dsimp only at hSw); go_simp; (try with_reducible rfl)); (try simp only [Act.put, List.getElem_toArray, List.getElem_cons_zero, List.getElem_cons_succ, List.setIfInBounds_toArray, List.set_cons_zero, List.set_cons_succ])); (refine wpAnyH_take (i := 18) (v := ?tv18) rfl (by kernel_rfl) (by kernel_rfl) (by kernel_rfl) (fun _ _ _ h => h) (Or.inl ⟨by rfl, ?thy18⟩) (by assumption) ?trest18; case thy18 => (intro w hSw; (try dsimp only at hSw); go_simp; (try with_reducible rfl)); (try simp only [Act.put, List.getElem_toArray, List.getElem_cons_zero, List.getElem_cons_succ, List.setIfInBounds_toArray, List.set_cons_zero, List.set_cons_succ]))
              refine wpAnyH_ready (rs := [13, 19]) (by kernel_rfl) (by simp) ?_
              refine AllReadyH.cons (i := 13) rfl (fun K hK => ?_) ?_
              · go_simp
                refine hK.out _ _ ?_ (fun hHeld => ?_)
                · go_keep
                clear hK K
                (try simp only [Act.put, List.getElem_toArray, List.getElem_cons_zero, List.getElem_cons_succ, List.setIfInBounds_toArray, List.set_cons_zero, List.set_cons_succ])
                refine wpAnyH_ready (rs := [19]) (by kernel_rfl) (by simp) ?_; refine AllReadyH.cons (i := 19) rfl (fun K hK => ?_) AllReadyH.nil
                go_simp
                refine hK.out _ _ (by first | assumption | go_keep) (fun hHeld => ?_); clear hK K; (try simp only [Act.put, List.getElem_toArray, List.getElem_cons_zero, List.getElem_cons_succ, List.setIfInBounds_toArray, List.set_cons_zero, List.set_cons_succ])
                refine wpAnyH_ready (rs := [20]) (by kernel_rfl) (by simp) ?_; refine AllReadyH.cons (i := 20) rfl (fun K hK => ?_) AllReadyH.nil
                refine step_push_row (row := rowI) rfl _ _ _ _ rfl Tryz.underlying26 (.int .i64 0) 8 infoI rfl (by decide) (by decide) rowI_len (W1.heap.size + 1) wr.heap.size wr.heap.size u ((nextTo M.length X k).getD a0 []) (c0 : Int) #[.int .i64 (c0 : Int)] _ rfl (rowI_one _) rfl rfl (heap_alloc_new wr _) (OwnRow.al hur.row _) hll (Nat.le_trans (by omega) (Nat.le_of_lt (Nat.lt_of_lt_of_le (Nat.lt_succ_self _) (Nat.le_of_eq (World.size_alloc wr _).symm)))) ?_
                intro v7 w7 hown7 hg7 hat7 hs7
                have r1 := grown_cell hg7 _ _ _ y0 hub
                have r2 := grown_cell hg7 _ _ _ y2 hub
                have r3 := grown_cell hg7 _ _ _ hu hug
                have r4 := grown_frozen hg7 _ _ hgr huf hug
                obtain ⟨gq, n7, cq, rfl⟩ := OwnRow.form hown7 (by simp)
                have hd := hback w7 _ _ hown7.ints.1 (grownBy_trans (grownBy_ald wr _ _) hg7) (hat7.imp id (fun h => ⟨_, h, by rw [size_ald]; omega⟩)) hgn1
                rw [← HK.out] at hd
                have hBa : Below (W1.heap.size + 1) W2 (wr.alloc (Obj.cells #[Value.int IntKind.i64 (c0 : Int)] 2)).drew := (hbn.alloc (by omega) _).drew
                have hB7 := hBa.grown hg7 (by rw [size_ald]; omega) (fun q hq => (World.ownsRow.lt hur.1 q hq).1)
                refine hK.out _ _ (by first | assumption | go_keep) (fun hHeld => ?_); clear hK K; (try simp only [Act.put, List.getElem_toArray, List.getElem_cons_zero, List.getElem_cons_succ, List.setIfInBounds_toArray, List.set_cons_zero, List.set_cons_succ])
                (refine wpAnyH_take (i := 21) (v := ?tv19) rfl (by kernel_rfl) (by kernel_rfl) (by kernel_rfl) (fun _ _ _ h => h) (Or.inl ⟨by rfl, ?thy19⟩) (by assumption) ?trest19; case thy19 => (intro w hSw; (try dsimp only at hSw); go_simp; (try with_reducible rfl)); (try simp only [Act.put, List.getElem_toArray, List.getElem_cons_zero, List.getElem_cons_succ, List.setIfInBounds_toArray, List.set_cons_zero, List.set_cons_succ]))
                refine wpAnyH_ready (rs := [22]) (by kernel_rfl) (by simp) ?_; refine AllReadyH.cons (i := 22) rfl (fun K hK => ?_) AllReadyH.nil
                go_simp
                refine hK.out _ _ (by first | assumption | go_keep) (fun hHeld => ?_); clear hK K; (try simp only [Act.put, List.getElem_toArray, List.getElem_cons_zero, List.getElem_cons_succ, List.setIfInBounds_toArray, List.set_cons_zero, List.set_cons_succ])
                refine wpAnyH_done (by kernel_rfl) ?_ _
                refine NoPanic.normal ?_
                go_wp2
                go_roundw
                case rel => exact ⟨k + 1, by omega, by go_num, hd.tight, hB7.setCell (by omega) _⟩
                case measure => simp [intOf]; omega
              refine AllReadyH.cons (i := 19) rfl (fun K hK => ?_) AllReadyH.nil
              · go_simp
                refine hK.out _ _ (by first | assumption | go_keep) (fun hHeld => ?_); clear hK K; (try simp only [Act.put, List.getElem_toArray, List.getElem_cons_zero, List.getElem_cons_succ, List.setIfInBounds_toArray, List.set_cons_zero, List.set_cons_succ])
                refine wpAnyH_ready (rs := [13]) (by kernel_rfl) (by simp) ?_; refine AllReadyH.cons (i := 13) rfl (fun K hK => ?_) AllReadyH.nil
                go_simp
                refine hK.out _ _ (by first | assumption | go_keep) (fun hHeld => ?_); clear hK K; (try simp only [Act.put, List.getElem_toArray, List.getElem_cons_zero, List.getElem_cons_succ, List.setIfInBounds_toArray, List.set_cons_zero, List.set_cons_succ])
                refine wpAnyH_ready (rs := [20]) (by kernel_rfl) (by simp) ?_; refine AllReadyH.cons (i := 20) rfl (fun K hK => ?_) AllReadyH.nil
                refine step_push_row (row := rowI) rfl _ _ _ _ rfl Tryz.underlying26 (.int .i64 0) 8 infoI rfl (by decide) (by decide) rowI_len (W1.heap.size + 1) wr.heap.size wr.heap.size u ((nextTo M.length X k).getD a0 []) (c0 : Int) #[.int .i64 (c0 : Int)] _ rfl (rowI_one _) rfl rfl (heap_alloc_new wr _) (OwnRow.al hur.row _) hll (Nat.le_trans (by omega) (Nat.le_of_lt (Nat.lt_of_lt_of_le (Nat.lt_succ_self _) (Nat.le_of_eq (World.size_alloc wr _).symm)))) ?_
                intro v7 w7 hown7 hg7 hat7 hs7
                have r1 := grown_cell hg7 _ _ _ y0 hub
                have r2 := grown_cell hg7 _ _ _ y2 hub
                have r3 := grown_cell hg7 _ _ _ hu hug
                have r4 := grown_frozen hg7 _ _ hgr huf hug
                obtain ⟨gq, n7, cq, rfl⟩ := OwnRow.form hown7 (by simp)
                have hd := hback w7 _ _ hown7.ints.1 (grownBy_trans (grownBy_ald wr _ _) hg7) (hat7.imp id (fun h => ⟨_, h, by rw [size_ald]; omega⟩)) hgn1
                rw [← HK.out] at hd
                have hBa : Below (W1.heap.size + 1) W2 (wr.alloc (Obj.cells #[Value.int IntKind.i64 (c0 : Int)] 2)).drew := (hbn.alloc (by omega) _).drew
                have hB7 := hBa.grown hg7 (by rw [size_ald]; omega) (fun q hq => (World.ownsRow.lt hur.1 q hq).1)
                refine hK.out _ _ (by first | assumption | go_keep) (fun hHeld => ?_); clear hK K; (try simp only [Act.put, List.getElem_toArray, List.getElem_cons_zero, List.getElem_cons_succ, List.setIfInBounds_toArray, List.set_cons_zero, List.set_cons_succ])
                (refine wpAnyH_take (i := 21) (v := ?tv20) rfl (by kernel_rfl) (by kernel_rfl) (by kernel_rfl) (fun _ _ _ h => h) (Or.inl ⟨by rfl, ?thy20⟩) (by assumption) ?trest20; case thy20 => (intro w hSw; (try dsimp only at hSw); go_simp; (try with_reducible rfl)); (try simp only [Act.put, List.getElem_toArray, List.getElem_cons_zero, List.getElem_cons_succ, List.setIfInBounds_toArray, List.set_cons_zero, List.set_cons_succ]))
                refine wpAnyH_ready (rs := [22]) (by kernel_rfl) (by simp) ?_; refine AllReadyH.cons (i := 22) rfl (fun K hK => ?_) AllReadyH.nil
                go_simp
                refine hK.out _ _ (by first | assumption | go_keep) (fun hHeld => ?_); clear hK K; (try simp only [Act.put, List.getElem_toArray, List.getElem_cons_zero, List.getElem_cons_succ, List.setIfInBounds_toArray, List.set_cons_zero, List.set_cons_succ])
                refine wpAnyH_done (by kernel_rfl) ?_ _
                refine NoPanic.normal ?_
                go_wp2
                go_roundw
                case rel => exact ⟨k + 1, by omega, by go_num, hd.tight, hB7.setCell (by omega) _⟩
                case measure => simp [intOf]; omega
            · obtain rfl : k = X.length := by omega
              rw [nextTo_all] at hG
              have hZ := hG.shape (fun e => by have h1 := congrArg List.length e; rw [List.length_map, List.length_range] at h1; simp only [List.length_nil] at h1; omega)
              obtain ⟨gz, nz, cz, hez, -, -, -, hgz1, hgz2, -⟩ := hZ
              cases hez
              have hZ0 : W1.heap.size + 2 ≤ wr.heap.size := by omega
              obtain ⟨Z, HZ⟩ : ∃ Z, Hid (Z = wr.heap.size) := ⟨_, rfl⟩
              have hZ1 : W1.heap.size + 2 ≤ Z := by rw [HZ.out]; exact hZ0
              have hlo3 : OwnIR 2 w.heap.size W1.heap.size wr (.slice (some ⟨g, 0, none⟩) M.length cap) (outOf M.length (fput' (fun _ => none) s0 0)) := by
                rw [← outOf_put 0 hsl, ← outOf_none]
                exact hlo2.block fun b hb => hbn.block b (Nat.lt_succ_of_lt (hlo2.2 b hb))
              have hqe3 : OwnI1 W1.heap.size wr (.slice (some ⟨W1.heap.size, 0, none⟩) 1 1) [(s0 : Int)] := owns_block hqe fun b hb => hbn.block b (by simp only [Value.ownBlock, Option.some.injEq] at hb; rw [← hb]; exact Nat.lt_succ_self _)
              have B3 : Below w.heap.size w wr := B2.trans (hbn.mono (by omega))
              have hB0 := Lib.hid (Bfs.first (adjX X) (s0 : Int))
              have hO0 : Hid (∀ y ∈ [(s0 : Int)], y ∈ nodesL M.length) := fun y hy => by rw [List.mem_singleton.1 hy]; exact mem_nodesL.2 (by omega)
              have hX' : Hid (∀ i : Int, ∀ y ∈ adjX X i, y ∈ nodesL M.length) := by
                intro i y hy
                obtain ⟨a, ha, rfl⟩ := List.mem_map.1 hy
                exact mem_nodesL.2 (hX a (List.mem_filter.1 ha).1).2
              have HFX : Hid (∀ f, f = dist (adjX X) s0 → outOf M.length f = farL M.length X s0) := fun f hf => by rw [hf]; rfl
              have hnl : (nodesL M.length).length = M.length := by simp [nodesL]
              have hadl : Hid (∀ i, (adjX X i).length ≤ 1000000) := fun i => by
                unfold adjX
                rw [List.length_map]
                exact Nat.le_trans (List.length_filter_le _ _) hXl
              obtain ⟨W3, rfl⟩ : ∃ W3 : World, W3 = wr := ⟨_, rfl⟩
              clear hlo2 hqe hbn hG2 B2 hlt hk hX
              go_wp2
              go_loopg [9, 13] M.length (fun gh q i wr => ∃ (O : List Int) (f : Int → Option Int) (k : Nat), k + gh = M.length ∧ i = .int .i64 k ∧ k ≤ O.length ∧ Hid (∀ y ∈ O, y ∈ nodesL M.length) ∧ Hid (Bfs (adjX X) s0 O f k []) ∧
                OwnI1 W1.heap.size wr q O ∧ Hid (∀ b, q.ownBlock = some b → b < W1.heap.size + 1 ∨ Z ≤ b) ∧ OwnIR 2 w.heap.size W1.heap.size wr (.slice (some ⟨g, 0, none⟩) M.length cap) (outOf M.length f) ∧
                Same (W1.heap.size + 1) Z W3 wr ∧ Below w.heap.size w wr)
              case atStart => exact ⟨[(s0 : Int)], _, 0, by omega, rfl, by simp, hO0, hB0, hqe3, fun b hb => Or.inl (by simp only [Value.ownBlock, Option.some.injEq] at hb; omega), hlo3, Same.refl (Nat.le_of_eq HZ.out), B3⟩
              case round =>
                clear hlo3 hqe3 B3 hB0 hO0
                obtain ⟨O, f, k, hkg, rfl, hkO, hOL, hB, hq, hoff, hlo, hsm, hbr⟩ := hrel
                have hOlen := hB.out.len hOL.out
                rw [hnl] at hOlen
                have hsm1 := hsm.1
                have hs3 := hbr.size
                obtain ⟨wo, rfl⟩ : ∃ wo : World, wo = wr := ⟨_, rfl⟩
                rcases OwnI.shape hq with ⟨_, hnil⟩ | ⟨gq, capq, rfl, hq1, hq2, hq3, hq4, hqc, _⟩
                · exact absurd hnil (fun e => by have h1 := (hB.out.dom s0).2 (by rw [hB.out.start]; rfl); rw [e] at h1; cases h1)
                by_cases hlt : k < O.length
                · have hx0 := mem_nodesL.1 (hOL.out _ (getD_mem hlt))
                  have y0 := hqc k hlt
                  obtain ⟨x, Hx⟩ : ∃ x : Nat, Hid (O.getD k 0 = (x : Int)) := ⟨(O.getD k 0).toNat, by unfold Hid; omega⟩
                  rw [Hx.out] at hx0 y0
                  have hxn : x < M.length := by omega
                  obtain ⟨u, hu, _, hur, _, _⟩ := hG.get x (by simpa using hxn)
                  have hux : (((List.range M.length).map fun j : Nat => adjX X (j : Int)).getD x []) = adjX X x := by simp [List.getD, hxn]
                  rw [hux] at hur
                  have hrl := World.ownsRow.lt hur.1
                  obtain ⟨au, capu, rfl, hul, huc⟩ := hur.rd
                  have hgnZ : W1.heap.size + 1 ≤ gn ∧ gn < Z := ⟨hgz1, by have := HZ.out; omega⟩
                  have z0 : wo.cell? ⟨gn, x, none⟩ = some (.slice au (adjX X x).length capu) := by rw [hsm.cell hgnZ.1 hgnZ.2]; exact hu
                  have HTX : Hid (∀ j, j < (adjX X x).length → (adjX X x).getD j 0 ∈ nodesL M.length) := fun j hj => hX'.out x _ (getD_mem hj)
                  have hTl := hadl.out x
                  have HTA : Hid (adjX X (O.getD k 0) = adjX X x) := by unfold Hid; rw [Hx.out]
                  obtain ⟨T, HT⟩ : ∃ T, Hid (adjX X x = T) := ⟨_, rfl⟩
                  rw [HT.out] at HTX hTl HTA hul huc z0
                  have hu0 := hu
                  rw [HT.out] at hu0
                  clear hur hu hux hqc
                  have hcapq := hq4
                  go_wp2
                  go_loopw [9, 15] (fun q i wr => ∃ (j : Nat) (O : List Int) (f : Int → Option Int), j ≤ T.length ∧ i = .int .i64 j ∧ k < O.length ∧ Hid (O.getD k 0 = (x : Int)) ∧ Hid (∀ y ∈ O, y ∈ nodesL M.length) ∧ Hid (Bfs (adjX X) s0 O f k (T.take j)) ∧
                    OwnI1 W1.heap.size wr q O ∧ Hid (∀ b, q.ownBlock = some b → b < W1.heap.size + 1 ∨ Z ≤ b) ∧ OwnIR 2 w.heap.size W1.heap.size wr (.slice (some ⟨g, 0, none⟩) M.length cap) (outOf M.length f) ∧
                    Same (W1.heap.size + 1) Z W3 wr ∧ Below w.heap.size w wr) (fun _ i _ => T.length - (intOf i).toNat)
                  case atStart => exact ⟨0, O, f, by omega, rfl, hlt, Hx, hOL, by rw [List.take_zero]; exact hB, hq, hoff, hlo, hsm, hbr⟩
                  case round =>
                    clear hq hoff hlo hsm hbr hB hOL Hx hlt hkO hOlen hq1 hq2 hq3 hq4 hcapq y0 z0 hsm1 hs3
                    obtain ⟨j, O, f, hj, rfl, hlt, Hx, hOL, hB, hq, hoff, hlo, hsm, hbr⟩ := hrel
                    have hsm1 := hsm.1
                    have hs3 := hbr.size
                    have z0 : wr.cell? ⟨gn, x, none⟩ = some (.slice au T.length capu) := by rw [hsm.cell hgnZ.1 hgnZ.2]; exact hu0
                    by_cases hjlt : j < T.length
                    · obtain ⟨bt, ot, rfl, ht⟩ := huc j hjlt
                      have hbt := hrl bt rfl
                      have ht' : wr.cell? ⟨bt, ot + j, none⟩ = some (.int .i64 (T.getD j 0)) := by rw [hsm.cell hbt.1 (by rw [HZ.out]; exact hbt.2)]; exact ht
                      have hy0 := mem_nodesL.1 (HTX.out j hjlt)
                      have HK : Hid (T.take (j + 1) = T.take j ++ [T.getD j 0]) := by
                        unfold Hid
                        rw [take_snoc _ _ hjlt]; simp [List.getD, hjlt]
                      have hya : Hid (T.getD j 0 ∈ adjX X (O.getD k 0)) := by
                        unfold Hid
                        rw [Hx.out, HT.out]
                        exact getD_mem hjlt
                      obtain ⟨y, Hy⟩ : ∃ y : Nat, Hid (T.getD j 0 = (y : Int)) := ⟨(T.getD j 0).toNat, by unfold Hid; omega⟩
                      rw [Hy.out] at ht' hy0 HK hya
                      have hyn : y < M.length := by omega
                      have hyL := Lib.hid (mem_nodesL.2 hy0)
                      have hcy := (OwnI.cell hlo.1 y (by rw [outOf_len]; exact hyn))
                      have hcx := (OwnI.cell hlo.1 x (by rw [outOf_len]; exact hxn))
                      rw [outOf_get hyn] at hcy
                      rw [outOf_get hxn] at hcx
                      have hfx := hB.out.bound k hlt
                      have hmx := hB.out.mem (getD_mem hlt)
                      rw [Hx.out] at hfx hmx
                      have hOlen := hB.out.len hOL.out
                      rw [hnl] at hOlen
                      obtain ⟨hcx1, hcx2⟩ := hcx
                      obtain ⟨hcy1, hcy2⟩ := hcy
                      rw [hmx] at hcx1
                      have hdx : 0 ≤ (f (x : Int)).getD 0 ∧ (f (x : Int)).getD 0 ≤ 1024 := by omega
                      have hpx : Hid (f (x : Int) = some ((f (x : Int)).getD 0)) := hmx
                      have hoM := outOf_len M.length f
                      clear ht hmx hfx huc
                      cases hseen : (f (y : Int)).isSome
                      · have HS := Lib.hid hseen
                        have hfy : f (y : Int) = none := by simpa using hseen
                        rw [hfy] at hcy1
                        obtain ⟨dx, Hdx⟩ : ∃ dx, Hid ((f (x : Int)).getD 0 = dx) := ⟨_, rfl⟩
                        rw [Hdx.out] at hdx hcx1
                        have hst := OwnI.store (xs := outOf M.length f) (by rw [hoM]; exact hlo.1) y (dx + 1)
                        rw [hoM, outOf_put _ hyn] at hst
                        have hbs : Below w.heap.size w (wr.setCell ⟨g, y, none⟩ (.int .i64 (dx + 1))) := hbr.setCell hg1 _
                        have hug : Upd w.heap.size W1.heap.size wr (wr.setCell ⟨g, y, none⟩ (.int .i64 (dx + 1))) := Upd.of_grown hst.2 (fun b hb => by simp only [Option.some.injEq] at hb; omega)
                        have hsms := hsm.upd hug (Or.inl (by omega))
                        have hqs : OwnI1 W1.heap.size (wr.setCell ⟨g, y, none⟩ (.int .i64 (dx + 1))) u9 O := hq.setBelow hg2' _
                        have hll : O.length < 1000000000 := by omega
                        clear hfy hseen hug
                        have HZ6 : Hid ((wr.setCell ⟨g, y, none⟩ (.int .i64 (dx + 1))).heap.size = wr.heap.size) := by unfold Hid; simp
                        go_wp2_with (at_builtin; refine push_int_at rfl _ _ _ _ rfl Tryz.underlying26 infoI W1.heap.size _ _ _ (wr.setCell ⟨g, y, none⟩ (.int .i64 (dx + 1))) rfl (by rw [HZ6.out]; rfl) (by exact hqs) hll (by rw [HZ6.out]; omega) ?_; intro v6 w6 hq6 hg6 hat6 hs6)
                        have hlo6 : OwnIR 2 w.heap.size W1.heap.size w6 (.slice (some ⟨g, 0, none⟩) M.length cap) (outOf M.length (fput' f y (dx + 1))) := by
                          have h1 : OwnIR 2 w.heap.size W1.heap.size (wr.setCell ⟨g, y, none⟩ (.int .i64 (dx + 1))) (.slice (some ⟨g, 0, none⟩) M.length cap) (outOf M.length (fput' f y (dx + 1))) := ⟨hst.1, fun b hb => by simp only [Value.ownBlock, Option.some.injEq] at hb; omega⟩
                          exact h1.off hg6 (fun b hb => Or.inr (World.ownsRow.lt hqs b hb).1)
                        have hsz6 := HZ6.out
                        have hBn := hB.out.new hlt HS.out hya.out
                        rw [Hx.out, Hdx.out] at hBn
                        go_roundw
                        case rel => exact ⟨j + 1, O ++ [(y : Int)], fput' f y (dx + 1), by omega, by go_num, by rw [List.length_append]; omega,
                          by unfold Hid; rw [List.getD_eq_getElem?_getD, List.getElem?_append_left hlt, ← List.getD_eq_getElem?_getD]; exact Hx.out,
                          fun z hz => by
                            rcases List.mem_append.1 hz with hz | hz
                            · exact hOL.out z hz
                            · rw [List.mem_singleton.1 hz]; exact hyL.out,
                          by rw [HK.out]; exact Lib.hid hBn, hq6, fun b hb => by
                            rcases hat6 with he | he
                            · exact hoff.out b (he.symm.trans hb)
                            · rw [he, hsz6] at hb; simp only [Option.some.injEq] at hb; right; omega, hlo6,
                          hsms.grown hg6 (fun b hb => by have := hoff.out b hb; omega), hbs.grown hg6 (by rw [hsz6]; omega) (fun b hb => by have := (World.ownsRow.lt hqs b hb).1; omega)⟩
                        case measure => simp [intOf]; omega
                      · have HS := Lib.hid hseen
                        obtain ⟨i1, hi1, hi2⟩ := List.getElem_of_mem ((hB.out.dom (y : Int)).2 hseen)
                        have hby := hB.out.bound i1 hi1
                        rw [show O.getD i1 0 = (y : Int) by simp [List.getD, hi1, hi2]] at hby
                        have hmy := hB.out.mem ((hB.out.dom (y : Int)).2 hseen)
                        rw [hmy] at hcy1
                        have hdy : 0 ≤ (f (y : Int)).getD 0 := hby.1
                        have hnot : ¬ (f (y : Int)).getD 0 < 0 := by omega
                        clear hmy hby hi2 hseen
                        obtain ⟨dy, Hdy⟩ : ∃ dy, Hid ((f (y : Int)).getD 0 = dy) := ⟨_, rfl⟩
                        have hcy1' : wr.cell? ⟨g, y, none⟩ = some (.int .i64 dy) := by rw [hcy1, ← Hdy.out]; rfl
                        rw [Hdy.out] at hnot hdy
                        clear hcy1
                        go_wp2
                        go_roundw
                        case rel => exact ⟨j + 1, O, f, by omega, by go_num, hlt, Hx, hOL, by rw [HK.out]; exact Lib.hid (hB.out.old hlt HS.out), hq, hoff, hlo, hsm, hbr⟩
                        case measure => simp [intOf]; omega
                    · have hBn := Lib.hid (hB.out.next hlt (fun y hy => by
                        rw [Hx.out, HT.out] at hy
                        rw [List.take_of_length_le (by omega)]
                        exact hy))
                      have hOlen := hB.out.len hOL.out
                      rw [hnl] at hOlen
                      clear huc
                      go_wp2
                      go_roundg (gk - 1)
                      case measure => omega
                      case rel => exact ⟨O, f, k + 1, by omega, by go_num, by omega, hOL, hBn, hq, hoff, hlo, hsm, hbr⟩
                · obtain rfl : k = O.length := by omega
                  have hfin := hB.out.all hlt
                  have HF := Lib.hid (HFX.out f hfin)
                  clear hfin hqc
                  go_wp2
                  go_ret
                  exact ⟨_, rfl, by rw [← HF.out]; exact hlo.1, hbr⟩
end Go.Proofs.YtioemkdapoombaaGreatDoor
end
section
set_option linter.unusedVariables false
namespace Go.Proofs.YtioemkdapoombaaGreatDoor
open Go.ChangeShapes Go.WideShapes Go.ChangeAt Go.RowKit
theorem arcs_bd {n h : Int} (hh : 1 ≤ h ∧ h ≤ 10) : ∀ a ∈ arcsL (maskL n h) h, (0 ≤ a.1 ∧ a.1 < (maskL n h).length) ∧ (0 ≤ a.2.2 ∧ a.2.2 < (maskL n h).length) := by
  intro a ha
  unfold arcsL arcsTo at ha
  obtain ⟨i, hi, ha⟩ := List.mem_flatMap.1 ha
  have hi := List.mem_range.1 hi
  obtain ⟨t, ht, rfl⟩ := List.mem_map.1 ha
  have hc := ((mem_throwsL (by omega)).1 ht).2
  have hm := next_mem hh (getD_mem hi) hc
  have := idx_lt hm
  exact ⟨⟨Int.natCast_nonneg _, Int.ofNat_lt.2 hi⟩, ⟨Int.natCast_nonneg _, Int.ofNat_lt.2 this⟩⟩
theorem arcs_len' (n h : Int) (hh : 1 ≤ h ∧ h ≤ 10) : (arcsL (maskL n h) h).length ≤ 1000000 := by
  have h1 := arcsTo_len (maskL n h) h (maskL n h).length (by omega)
  have h2 := maskL_len n h hh
  unfold arcsL
  omega
end Go.Proofs.YtioemkdapoombaaGreatDoor
end
section
set_option linter.unusedVariables false
namespace Go.Proofs.YtioemkdapoombaaGreatDoor
open Go.ChangeShapes Go.WideShapes Go.ChangeAt Go.RowKit
set_option linter.unusedSimpArgs false
theorem RdI.same {lo hi : Nat} {a b : World} {v : Value} {xs : List Int} (h : RdI a v xs) (hs : Same lo hi a b) (hl : ∀ k, v.ownBlock = some k → lo ≤ k ∧ k < hi) : RdI b v xs := by
  obtain ⟨ad, cap, hv, hn, hc⟩ := h
  refine ⟨ad, cap, hv, hn, fun k hk => ?_⟩
  obtain ⟨bl, off, ha, hcell⟩ := hc k hk
  have hb := hl bl (by rw [hv, ha]; rfl)
  exact ⟨bl, off, ha, by rw [hs.cell hb.1 hb.2]; exact hcell⟩
theorem farL_back {n h b : Int} (hh : 1 ≤ h ∧ h ≤ 10) (hb : b ∈ maskL n h) : farL (maskL n h).length (backL (maskL n h) h) (idxI (maskL n h) b) = (maskL n h).map (fun y => farM h y b) := by
  apply List.ext_getElem
  · simp [farL]
  · intro i h1 h2
    have hi : i < (maskL n h).length := by simpa using h2
    have hmi : (maskL n h)[i] ∈ maskL n h := List.getElem_mem hi
    have hidx : idxI (maskL n h) (maskL n h)[i] = (i : Int) := by
      unfold idxI
      rw [idx_at (nodup_of_sorted (maskL_sorted n h)) i hi]
    have hd := dist_back hh hb hmi
    rw [hidx] at hd
    simp only [farL, List.getElem_map, List.getElem_range, hd]
    rfl
def backTo (X : List (Int × Int × Int)) (k : Nat) : List (Int × Int × Int) := (X.take k).map fun a => (a.2.2, (0 : Int), a.1)
theorem backTo_succ {X : List (Int × Int × Int)} {k : Nat} (hk : k < X.length) : backTo X (k + 1) = backTo X k ++ [(X[k].2.2, 0, X[k].1)] := by
  unfold backTo
  rw [take_snoc _ _ hk, List.map_append]; rfl
theorem backTo_len (X : List (Int × Int × Int)) (k : Nat) : (backTo X k).length ≤ X.length := by
  unfold backTo
  rw [List.length_map]
  exact List.length_take_le' _ _
theorem backTo_all (L : List Int) (h : Int) : backTo (arcsL L h) (arcsL L h).length = backL L h := by
  unfold backTo backL
  rw [List.take_length]
theorem mapFar_at {L : List Int} {h b x : Int} (hx : x ∈ L) : (L.map (fun y => farM h y b)).getD (idx L x) 0 = farM h x b := by
  have hl := idx_lt hx
  have hg := idx_get hx
  simp [List.getD, hl, hg]
set_option maxHeartbeats 8000000 in
set_option maxRecDepth 100000 in
theorem c_spec_l10Short (n h a b : Int) (w : World) (hh : 1 ≤ h ∧ h ≤ 10) (ha : a ∈ maskL n h) (hb : b ∈ maskL n h) :
    Calls Tryz.prog 121 #[.agg #[.int .i64 h, .int .i64 a], .agg #[.int .i64 h, .int .i64 b]] w fun e w' => ∃ v, e = .returned v ∧ OwnI1 w.heap.size w' v (shortL h a b) ∧ Below w.heap.size w w' := by
  obtain ⟨W0, hW0, k0, k1, k2, k3, B0⟩ := twoStates w 25 h a h b
  have f0 : W0.frozen? ⟨w.heap.size, 0, none⟩ = false := by rw [hW0]; go_simp
  have f1 : W0.frozen? ⟨w.heap.size, 1, none⟩ = false := by rw [hW0]; go_simp
  have hs0 : w.heap.size + 2 = W0.heap.size := by rw [hW0]; simp
  have HPA : Hid (popI a = n) := (mem_maskL.1 ha).2
  have haq : 0 ≤ a ∧ a < 1024 := mask_bd hh ha
  have hhb : 0 ≤ h ∧ h ≤ 10 := by omega
  have HFB := Lib.hid (fun x hx => farM_bd (n := n) (a := x) (b := b) hh hx hb)
  have HBD := Lib.hid (fun x => fun hx => mask_bd (n := n) (h := h) (m := x) hh hx)
  have HC := Lib.hid (fun x t => fun hx hc => next_mem (n := n) (h := h) (m := x) (t := t) hh hx hc)
  have HST := Lib.hid (fun x hx hne => shortL_step (n := n) (a := x) (b := b) hh hx hb hne)
  have HPK := Lib.hid (fun x hx hne => pick_not (n := n) (a := x) (b := b) hh hx hb hne)
  have HAL := Lib.hid ha
  have HBL := Lib.hid hb
  have HXB := Lib.hid (back_bd (arcs_bd (n := n) hh))
  have HFL : Hid (farL (maskL n h).length (backL (maskL n h) h) ((idx (maskL n h) b : Nat) : Int) = (maskL n h).map (fun y => farM h y b)) := farL_back hh hb
  have HSO := Lib.hid (maskL_sorted n h)
  have hlen := maskL_len n h hh
  have hXl := arcs_len' n h hh
  have hix := idx_lt hb
  have HFM : Hid ((farM h a b).toNat ≤ 1024) := by
    have := HFB.out a ha
    have := maskL_len n h hh
    unfold Hid
    omega
  clear ha hb
  go_enter Tryz.func121, Tryz.ntmps121
  go_wp2_with fail
  rw [← hW0]
  have HS0 := Lib.hid hs0
  clear hW0 hs0
  go_region_held3 (fun w' => w'.cell? ⟨w.heap.size, 0, none⟩ = some (.int .i64 h) ∧ w'.cell? ⟨w.heap.size, 1, none⟩ = some (.int .i64 a))
    (go_keep)
    (first
      | ((go_at_call 147; refine (c_spec_l08Count a _ haq).mono ?_; rintro e w2 ⟨rfl, rfl⟩; rw [HPA.out]))
      | ((go_at_call 146; refine (c_spec_l09Masks n h _ hhb).mono ?_; rintro e w3 ⟨v3, rfl, ho3, hb3⟩; have hb3' := below_drew hb3; have p0 := keepc hb3' k0; have p1 := keepc hb3' k1)))
  have p2 := keepc hb3' k2
  have p3 := keepc hb3' k3
  have g0 := frozenc hb3' k0 f0
  have g1 := frozenc hb3' k1 f1
  have hs3 := hb3'.size
  have hs0 := HS0.out
  have hlt3 : ∀ k, v3.ownBlock = some k → W0.heap.size ≤ k ∧ k < w3.heap.size := World.ownsRow.lt ho3
  have hrM := ho3.rd
  have B3 : Below w.heap.size w w3 := B0.tr hb3'
  have HMW := Lib.hid hrM
  obtain ⟨aM, capM, rfl, hlM, _⟩ := hrM
  have HML : Hid (∀ k, (Value.slice aM (maskL n h).length capM).ownBlock = some k → w.heap.size + 2 ≤ k ∧ k < w3.heap.size) := fun k hk => by
    have := hlt3 k hk
    omega
  clear k0 k1 k2 k3 f0 f1 hb3 hb3' ho3 hlt3
  go_wp2_with (go_at_call 148; refine (c_spec_l09Arcs n h _ _ hh HMW.out).mono ?_; rintro e w4 ⟨v4, rfl, ho4, hb4⟩; have q0 := keepc hb4 p0; have q1 := keepc hb4 p1; have hs4 := hb4.size; have hr4 := OwnRow.rd rowA_len ho4; obtain ⟨a4, cap4, rfl, hl4, hcell⟩ := hr4)
  have q2 := keepc hb4 p2
  have q3 := keepc hb4 p3
  have r0 := frozenc hb4 p0 g0
  have r1 := frozenc hb4 p1 g1
  have B4 : Below w.heap.size w w4 := B3.tr hb4
  have HMW4 := Lib.hid (HMW.out.below hb4)
  have hcell5 : ∀ k (hk : k < (arcsL (maskL n h) h).length), ∃ b off, a4 = some ⟨b, off, none⟩ ∧ b < w4.heap.size ∧ ∀ c u, (rowA (arcsL (maskL n h) h)[k])[c]? = some u → w4.cell? ⟨b, off + k * 3 + c, none⟩ = some u := fun k hk => by
    obtain ⟨b, off, ha, hc⟩ := hcell k hk
    refine ⟨b, off, ha, ?_, hc⟩
    subst ha
    exact (World.ownsRow.lt ho4.1 b rfl).2
  have HC5 := Lib.hid hcell5
  have HBA := Lib.hid (backTo_all (maskL n h) h)
  have hbb := backL_len (maskL n h) h
  have hout4 := (OwnRow.made (E := 160) (row := rowA) (sz := 3) (a := w4) (xs := []) rfl rfl (Nat.le_refl _)).tight
  clear hcell5 hcell ho4 hb4 p0 p1 p2 p3 g0 g1 HMW
  generalize arcsL (maskL n h) h = X at *
  go_wp2
  go_loopw [7, 8] (fun out i wr => ∃ k : Nat, k ≤ X.length ∧ i = .int .i64 k ∧ OwnA w4.heap.size wr.heap.size wr out (backTo X k) ∧ Below w4.heap.size w4 wr) (fun _ i _ => X.length - (intOf i).toNat)
  case atStart => exact ⟨0, by omega, rfl, by unfold backTo; simpa using hout4, by (repeat (first | (with_reducible assumption) | (with_reducible exact Below.refl _ _) | (with_reducible refine Below.setCell ?_ (by first | (simp; done) | (simp; omega)) _) | (with_reducible refine Below.al ?_ _) | (with_reducible refine Below.dr ?_) | (with_reducible refine Below.drN ?_ _) | (with_reducible refine Below.tr ?_ (by with_reducible assumption))))⟩
  case round =>
    obtain ⟨k, hk, rfl, hout, hbr⟩ := hrel
    have hbr1 := hbr.size
    by_cases hlt : k < X.length
    · obtain ⟨b2, o2, rfl, hb2, hx⟩ := HC5.out k hlt
      obtain ⟨⟨x0, x1, x2⟩, hxk⟩ : ∃ x, X[k] = x := ⟨_, rfl⟩
      have HY := Lib.hid (backTo_succ (X := X) hlt)
      unfold Hid at HY
      rw [hxk] at hx HY
      have HY := Lib.hid HY
      have y0 : wr.cell? ⟨b2, o2 + k * 3, none⟩ = some (.int .i64 x0) := by rw [hbr.cell (p := ⟨b2, o2 + k * 3, none⟩) hb2]; exact hx 0 _ rfl
      have y2 : wr.cell? ⟨b2, o2 + k * 3 + 2, none⟩ = some (.int .i64 x2) := by rw [hbr.cell (p := ⟨b2, o2 + k * 3 + 2, none⟩) hb2]; exact hx 2 _ rfl
      have hll : (backTo X k).length < 1000000000 := by have := backTo_len X k; omega
      have hin0 : (0 : Int) ≤ (k : Int) := Int.natCast_nonneg _
      have hin1 : (k : Int) < (X.length : Int) := by omega
      have hb2r : b2 < wr.heap.size := by omega
      have hub : u7.ownBlock ≠ some b2 := fun e => by have := (World.ownsRow.lt hout.1 b2 e).1; omega
      have hne1 : ¬ wr.heap.size = b2 := by omega
      clear hx hxk
      go_wp2_with fail
      go_region_held3 (fun w' => w'.cell? ⟨b2, o2 + k * 3, none⟩ = some (.int .i64 x0) ∧ w'.cell? ⟨b2, o2 + k * 3 + 2, none⟩ = some (.int .i64 x2))
        (go_keep)
        (first
          | ((refine step_push_row (row := rowA) rfl _ _ _ _ rfl Tryz.underlying157 (.agg #[.int .i64 0, .int .i64 0, .int .i64 0]) 24 infoA rfl (by decide) (by decide) rowA_len w4.heap.size wr.heap.size wr.heap.size u7 (backTo X k) (x2, 0, x0) #[.int .i64 x2, .int .i64 0, .int .i64 x0] _ rfl (rowA_one _) rfl rfl (heap_alloc_new wr _) (hout.al _) hll ?_ ?_; exact Nat.le_trans hbr1 (Nat.le_of_lt (Nat.lt_of_lt_of_le (Nat.lt_succ_self _) (Nat.le_of_eq (World.size_alloc wr _).symm))); intro v7 w7 hown7 hg7 hat7 hs7; have r1 := grown_cell hg7 _ _ _ y0 hub; have r2 := grown_cell hg7 _ _ _ y2 hub)))
      have hBa : Below w4.heap.size w4 (wr.alloc (Obj.cells #[Value.int IntKind.i64 x2, Value.int IntKind.i64 0, Value.int IntKind.i64 x0] 160)).drew := by (repeat (first | (with_reducible assumption) | (with_reducible exact Below.refl _ _) | (with_reducible refine Below.setCell ?_ (by first | (simp; done) | (simp; omega)) _) | (with_reducible refine Below.al ?_ _) | (with_reducible refine Below.dr ?_) | (with_reducible refine Below.drN ?_ _) | (with_reducible refine Below.tr ?_ (by with_reducible assumption))))
      go_wp2
      go_roundw
      case rel => exact ⟨k + 1, by omega, by go_num, by rw [HY.out]; exact hown7, hBa.grown hg7 hBa.size (fun q hq => (World.ownsRow.lt hout.1 q hq).1)⟩
      case measure => simp [intOf]; omega
    · obtain rfl : k = X.length := by omega
      rw [HBA.out] at hout
      have p0 := keepc hbr q0
      have p1 := keepc hbr q1
      have p2 := keepc hbr q2
      have p3 := keepc hbr q3
      have g0 := frozenc hbr q0 r0
      have g1 := frozenc hbr q1 r1
      have HMW5 := Lib.hid (HMW4.out.below hbr)
      have hr5 := OwnRow.rd rowA_len hout
      go_wp2_with (first
        | (go_at_call 150; refine (c_spec_l09Find (maskL n h) b _ _ HMW5.out HSO.out HBL.out (by omega)).mono ?_; rintro e w5 ⟨rfl, rfl⟩)
        | (go_at_call 149; refine (c_spec_l09Far (maskL n h) (backL (maskL n h) h) ((idx (maskL n h) b : Nat) : Int) _ _ _ HMW5.out hr5 HXB.out (by omega) (by omega) (by omega)).mono ?_; rintro e w6 ⟨v6, rfl, ho6, hb6⟩; rw [HFL.out] at ho6))
      have hs6 := hb6.size
      have p0 := keepc hb6 p0
      have p1 := keepc hb6 p1
      have p2 := keepc hb6 p2
      have p3 := keepc hb6 p3
      have g0 := frozenc hb6 (keepc hbr q0) g0
      have g1 := frozenc hb6 (keepc hbr q1) g1
      have HMW6 := Lib.hid (HMW5.out.below hb6)
      have B6 : Below w.heap.size w w6 := (B4.tr hbr).tr hb6
      have HFLn : Hid (((maskL n h).map (fun y => farM h y b)).length = (maskL n h).length) := List.length_map _
      have HFAT := Lib.hid (fun x hx => mapFar_at (L := maskL n h) (h := h) (b := b) (x := x) hx)
      have HFR6 : Hid (RdI w6 v6 ((maskL n h).map (fun y => farM h y b))) := ho6.rd
      have HFL6 : Hid (∀ k, v6.ownBlock = some k → w.heap.size + 1 ≤ k ∧ k < w6.heap.size) := fun k hk => by have := World.ownsRow.lt ho6 k hk; omega
      have HML6 : Hid (∀ k, (Value.slice aM (maskL n h).length capM).ownBlock = some k → w.heap.size + 1 ≤ k ∧ k < w6.heap.size) := fun k hk => by have := HML.out k hk; omega
      have HIX := Lib.hid (fun x hx => idx_lt (L := maskL n h) (m := x) hx)
      have hO6 : OwnI1 w6.heap.size (w6.alloc (Obj.cells #[] 2)) (.slice (some ⟨w6.heap.size, 0, none⟩) 0 0) [] := OwnI.made rfl rfl (Nat.le_refl _)
      have C0 := al_c (.cells #[] 2) p0
      have C1 := al_c (.cells #[] 2) p1
      have F0 := al_f (.cells #[] 2) p0 g0
      have F1 := al_f (.cells #[] 2) p1 g1
      have hsm6 : Same (w.heap.size + 1) w6.heap.size w6 (w6.alloc (Obj.cells #[] 2)) := (Same.refl (Nat.le_refl _)).below ((Below.refl _ _).al _)
      have hz6 : w.heap.size + 2 ≤ w6.heap.size := by omega
      clear hb6 hbr hbr1 hs4 hs3 ho6 q0 q1 q2 q3 r0 r1 HMW5 hr5 hout HC5 hout4 HMW4 hk hlt hXl hbb HXB HFL HBA hix
      generalize (maskL n h).map (fun y => farM h y b) = F at *
      go_loopg [10] (farM h a b).toNat (fun g out wr => ∃ (O : List Int) (x : Int), g = (farM h x b).toNat ∧ Hid (O ++ shortL h x b = shortL h a b) ∧ Hid (x ∈ maskL n h) ∧ O.length + g ≤ 1024 ∧ OwnI1 w6.heap.size wr out O ∧
        wr.cell? ⟨w.heap.size, 0, none⟩ = some (.int .i64 h) ∧ wr.cell? ⟨w.heap.size, 1, none⟩ = some (.int .i64 x) ∧ wr.frozen? ⟨w.heap.size, 0, none⟩ = false ∧ wr.frozen? ⟨w.heap.size, 1, none⟩ = false ∧ Same (w.heap.size + 1) w6.heap.size w6 wr ∧ Below w.heap.size w wr)
      case atStart => exact ⟨[], a, rfl, rfl, HAL, by have := HFM.out; simpa using this, hO6, C0, C1, F0, F1, hsm6, B6.al _⟩
      case round =>
        clear hO6 C0 C1 F0 F1 p0 p1 g0 g1 hsm6
        obtain ⟨O, x, hgk, HO, HX, hOl, hout, C0, C1, F0, F1, hsm, hbr⟩ := hrel
        have hsr := hsm.1
        have C2 := (hsm.cell (bl := w.heap.size + 1) (o := 0) (by omega) (by omega)).trans p2
        have C3 := (hsm.cell (bl := w.heap.size + 1) (o := 1) (by omega) (by omega)).trans p3
        by_cases hxb : x = b
        · subst hxb
          have hne : (x != x) = false := by simp
          have HE : Hid (O = shortL h a x) := by unfold Hid; rw [← HO.out, shortL_self, List.append_nil]
          go_wp2
          go_ret
          exact ⟨_, rfl, by rw [← HE.out]; exact hout.base (by omega), hbr⟩
        · have hne : (x != b) = true := by simp [hxb]
          have hxq := HBD.out x HX.out
          have hfb := HFB.out x HX.out
          have hTl : (throwsL h x).length ≤ 11 := by have := throwsTo_len h x (h + 1).toNat; unfold throwsL; omega
          have HT := Lib.hid (fun t => fun ht => (mem_throwsL (m := x) (t := t) (show 0 ≤ h by omega)).1 ht)
          obtain ⟨wo, rfl⟩ : ∃ wo : World, wo = wr := ⟨_, rfl⟩
          have hzw : w.heap.size < wo.heap.size := by omega
          go_wp2_with fail
          refine (c_spec_l08Throws h x _ hhb hxq).mono ?_; rintro e w7 ⟨tv, rfl, hot, hb7⟩
          have hlt7 := World.ownsRow.lt hot
          obtain ⟨att, capt, rfl, hlT, hcT⟩ := hot.rd
          have G0 := frozenc hb7 C0 F0
          have G1 := frozenc hb7 C1 F1
          have D0 := keepc hb7 C0
          have D1 := keepc hb7 C1
          have hs7 := hb7.size
          have hout7 := hout.below hb7
          have hsm7 := hsm.below hb7
          have hB7 : Below w.heap.size w w7 := hbr.tr hb7
          have HNO := Lib.hid (HPK.out x HX.out hxb)
          have HSTx := Lib.hid (HST.out x HX.out hxb)
          have HPT := Lib.hid (fun j hj hno hy => pick_at (T := throwsL h x) (p := fun t => farM h (nextM x t) b == farM h x b - 1) (j := j) hj hno hy)
          have HPD : Hid (pickT h b x = ((throwsL h x).find? fun t => farM h (nextM x t) b == farM h x b - 1).getD 0) := rfl
          have HMW7 := Lib.hid (RdI.same HMW6.out hsm7 HML6.out)
          obtain ⟨aF, capF, hvF, hlF, hcF⟩ := RdI.same HFR6.out hsm7 HFL6.out
          subst hvF
          have hxi := HIX.out x HX.out
          obtain ⟨bF, oF, rfl, hcx⟩ := hcF (idx (maskL n h) x) (by rw [HFLn.out]; exact hxi)
          rw [HFAT.out x HX.out] at hcx
          have HFI := Lib.hid (HFL6.out bF rfl)
          have HCF := Lib.hid hcF
          clear hb7 hout C0 C1 C2 C3 F0 F1 hot hcF
          generalize throwsL h x = T at *
          obtain ⟨ix, Hix⟩ : ∃ ix : Nat, Hid (idx (maskL n h) x = ix) := ⟨_, rfl⟩
          rw [Hix.out] at hxi hcx
          have hix0 : (0 : Int) ≤ (ix : Int) := Int.natCast_nonneg _
          have hix1 : (ix : Int) < (F.length : Int) := by have := HFLn.out; omega
          go_wp2_with (go_at_call 150; refine (c_spec_l09Find (maskL n h) x _ _ HMW7.out HSO.out HX.out (by omega)).mono ?_; rintro e w8 ⟨rfl, rfl⟩; rw [Hix.out])
          go_loopw [10, 13] (fun v i wr => ∃ j : Nat, j ≤ T.length ∧ i = .int .i64 j ∧ OwnI1 w6.heap.size wr v O ∧ Hid (∀ t ∈ T.take j, (farM h (nextM x t) b == farM h x b - 1) = false) ∧ Below w7.heap.size w7 wr) (fun _ i _ => T.length - (intOf i).toNat)
          case atStart => exact ⟨0, by omega, rfl, hout7, fun t ht => by simp at ht, Below.refl _ _⟩
          case round =>
            clear hout7 hcx
            obtain ⟨j, hj, rfl, hout8, HNJ, hb8⟩ := hrel
            have hs8 := hb8.size
            by_cases hjlt : j < T.length
            · obtain ⟨b2, o2, rfl, hy⟩ := hcT j hjlt
              have hb2r := hlt7 b2 rfl
              have hy' : wr.cell? ⟨b2, o2 + j, none⟩ = some (.int .i64 (T.getD j 0)) := by rw [hb8.cell (p := ⟨b2, o2 + j, none⟩) hb2r.2]; exact hy
              have E0 := keepc hb8 D0
              have E1 := keepc hb8 D1
              have htm := HT.out _ (getD_mem hjlt)
              have hnx := HC.out x (T.getD j 0) HX.out htm.2
              have htb := htm.1
              have hfn := HFB.out _ hnx
              have hxj := HIX.out _ hnx
              obtain ⟨bF', oF', heF, hcy⟩ := HCF.out (idx (maskL n h) (nextM x (T.getD j 0))) (by have := HFLn.out; omega)
              cases heF
              rw [HFAT.out _ hnx] at hcy
              have HNX := Lib.hid hnx
              have HPJ := Lib.hid (HPT.out j hjlt HNJ.out)
              have HTK : Hid (T.take (j + 1) = T.take j ++ [T.getD j 0]) := by
                unfold Hid
                rw [take_snoc _ _ hjlt]; simp [List.getD, hjlt]
              obtain ⟨t, Ht⟩ : ∃ t, Hid (T.getD j 0 = t) := ⟨_, rfl⟩
              rw [Ht.out] at hy' htb hfn HNX HPJ HTK hcy hxj
              have HMW8 := Lib.hid (HMW7.out.below hb8)
              have HOW := Lib.hid (fun k hk => World.ownsRow.lt hout8 k hk)
              have hcy' := keepc hb8 hcy
              obtain ⟨iy, Hiy⟩ : ∃ iy : Nat, Hid (idx (maskL n h) (nextM x t) = iy) := ⟨_, rfl⟩
              rw [Hiy.out] at hxj hcy'
              have hiy0 : (0 : Int) ≤ (iy : Int) := Int.natCast_nonneg _
              have hiy1 : (iy : Int) < (F.length : Int) := by have := HFLn.out; omega
              have hin0 : (0 : Int) ≤ (j : Int) := Int.natCast_nonneg _
              have hin1 : (j : Int) < (T.length : Int) := by omega
              obtain ⟨wi, rfl⟩ : ∃ wi : World, wi = wr := ⟨_, rfl⟩
              have hb2s : b2 < wi.heap.size := by omega
              have hwos : w.heap.size < wi.heap.size := by omega
              have hne1 : ¬ wi.heap.size = w.heap.size := by omega
              have hne2 : ¬ wi.heap.size = b2 := by omega
              have hne3 : ¬ b2 = w.heap.size := by omega
              clear hy htm hnx hcT HT hcy
              go_wp2_with fail
              go_region_held3 (fun w' => w'.cell? ⟨w.heap.size, 0, none⟩ = some (.int .i64 h) ∧ w'.cell? ⟨w.heap.size, 1, none⟩ = some (.int .i64 x) ∧ w'.cell? ⟨b2, o2 + j, none⟩ = some (.int .i64 t))
                (go_keep)
                ((go_at_call 37; refine (c_spec_l08Next h x t _ hxq (by omega)).mono ?_; rintro e w9 ⟨rfl, hb9⟩; first | (have hb9' := below_new hb9; obtain ⟨hc9, _⟩ := bcell hb9'; have hz9 : wi.heap.size < w9.heap.size := new_lt hb9; obtain ⟨n0, f0⟩ := new_cell hb9 0 _ rfl; obtain ⟨n1, f1⟩ := new_cell hb9 1 _ rfl) | (have hb9' := below_drew hb9; obtain ⟨hc9, _⟩ := bcell hb9'; have hz9 := hb9'.size)))
              go_wp2_with fail
              have N0 : (w9.alloc (Obj.cells #[Value.int IntKind.i64 h, Value.int IntKind.i64 (nextM x t)] 25)).cell? ⟨w9.heap.size, 0, none⟩ = some (.int .i64 h) := World.cell?_alloc_at _ _ _ _ rfl
              have N1 : (w9.alloc (Obj.cells #[Value.int IntKind.i64 h, Value.int IntKind.i64 (nextM x t)] 25)).cell? ⟨w9.heap.size, 1, none⟩ = some (.int .i64 (nextM x t)) := World.cell?_alloc_at _ _ _ _ rfl
              have hB9 : Below wi.heap.size wi (w9.alloc (Obj.cells #[Value.int IntKind.i64 h, Value.int IntKind.i64 (nextM x t)] 25)) := hb9'.al _
              have hnb : wi.heap.size ≤ w9.heap.size := hz9
              generalize (w9.alloc (Obj.cells #[Value.int IntKind.i64 h, Value.int IntKind.i64 (nextM x t)] 25)) = w10 at *
              generalize w9.heap.size = nb at *
              rotate_left
              go_wp2_with fail
              obtain ⟨N0, N1, -, hg2⟩ := set2 w9 wi.heap.size (.int .i64 h) (.int .i64 (nextM x t)) _ _ n0 n1
              have hB9 : Below wi.heap.size wi ((w9.setCell ⟨wi.heap.size, 0, none⟩ (Value.int IntKind.i64 h)).setCell ⟨wi.heap.size, 1, none⟩ (Value.int IntKind.i64 (nextM x t))) := (hb9'.setCell (Nat.le_refl _) _).setCell (Nat.le_refl _) _
              generalize ((w9.setCell ⟨wi.heap.size, 0, none⟩ (Value.int IntKind.i64 h)).setCell ⟨wi.heap.size, 1, none⟩ (Value.int IntKind.i64 (nextM x t))) = w10 at *
              obtain ⟨nb, hnbe⟩ : ∃ nb, Hid (nb = wi.heap.size) := ⟨_, rfl⟩
              rw [← hnbe.out] at N0 N1 ⊢
              have hnb : wi.heap.size ≤ nb := Nat.le_of_eq hnbe.out.symm
              rotate_left
              all_goals
                refine (c_spec_l09Find (maskL n h) (nextM x t) _ _ (HMW8.out.below hB9) HSO.out HNX.out (by omega)).mono ?_; rintro e w11 ⟨rfl, rfl⟩; rw [Hiy.out]
                have hs10 := hB9.size
                have hnlt : nb < w10.heap.size := World.block_lt_of_cell? _ _ N0
                have hcz := keepc hB9 hcy'
                have hyz := keepc hB9 hy'
                have P0 := keepc hB9 E0
                have P1 := keepc hB9 E1
                have S0 := frozenc hB9 E0 (frozenc hb8 D0 G0)
                have S1 := frozenc hB9 E1 (frozenc hb8 D1 G1)
                have hzz : w.heap.size < w10.heap.size := by omega
                clear hcy' hy'
                by_cases hok : farM h (nextM x t) b = farM h x b - 1
                · go_wp2_with (at_builtin; refine push_int_at rfl _ _ _ _ rfl Tryz.underlying26 infoI w6.heap.size _ _ _ w10 rfl rfl (by exact hout8.below hB9) (by omega) (by omega) ?_; intro v12 w12 ho12 hg12 hat12 hs12
                               have R0 := grown_c hg12 P0 (fun e => by have := (HOW.out _ e).1; omega)
                               have R1 := grown_c hg12 P1 (fun e => by have := (HOW.out _ e).1; omega)
                               have T0 := grown_f hg12 P0 S0 (fun e => by have := (HOW.out _ e).1; omega)
                               have T1 := grown_f hg12 P1 S1 (fun e => by have := (HOW.out _ e).1; omega)
                               have M0 := grown_c hg12 N0 (fun e => by have := (HOW.out _ e).2; omega)
                               have M1 := grown_c hg12 N1 (fun e => by have := (HOW.out _ e).2; omega))
                  obtain ⟨X0, X1, XF, hg13⟩ := set2 w12 w.heap.size (.int .i64 h) (.int .i64 (nextM x t)) _ _ R0 R1
                  have hs12' := hg12.size
                  have hs13 := hg13.size
                  have hsm12 := ((hsm7.below hb8).below hB9).grown hg12 (fun q hq => Or.inr (HOW.out q hq).1)
                  have hsm13 := hsm12.grown hg13 (fun q hq => by cases hq; left; omega)
                  have B12 : Below w.heap.size w w12 := ((hB7.tr hb8).tr hB9).grown hg12 (by omega) (fun q hq => by have := (HOW.out q hq).1; omega)
                  have B13 := B12.grown hg13 (by omega) (fun q hq => by cases hq; omega)
                  have hpt : pickT h b x = t := by rw [HPD.out, HPJ.out (by simp [hok])]; rfl
                  have HO8 : Hid ((O ++ [t]) ++ shortL h (nextM x t) b = shortL h a b) := by
                    unfold Hid
                    have h1 := HSTx.out
                    rw [hpt] at h1
                    rw [List.append_assoc, ← HO.out, h1]; rfl
                  have ho13 := (ho12.setBelow (p := ⟨w.heap.size, 0, none⟩) (show w.heap.size < w6.heap.size by omega) (.int .i64 h)).setBelow (p := ⟨w.heap.size, 1, none⟩) (show w.heap.size < w6.heap.size by omega) (.int .i64 (nextM x t))
                  go_roundg (gk - 1)
                  case measure => omega
                  case rel => exact ⟨O ++ [t], nextM x t, by omega, HO8, HNX, by rw [List.length_append]; simp only [List.length_singleton]; omega, ho13, X0, X1, by rw [XF]; exact T0, by rw [XF]; exact T1, hsm13, B13⟩
                · have hok2 : (farM h (nextM x t) b == farM h x b - 1) = false := by simp [hok]
                  go_wp2
                  go_roundw
                  case rel => exact ⟨j + 1, by omega, by go_num, hout8.below hB9, by
                    rw [HTK.out]
                    intro s hs
                    rcases List.mem_append.1 hs with hs | hs
                    · exact HNJ.out s hs
                    · rw [List.mem_singleton.1 hs]; exact hok2, hb8.tr hB9⟩
                  case measure => simp [intOf]; omega
            · exact (HNO.out (by rw [List.take_of_length_le (by omega)] at HNJ; exact HNJ.out)).elim
end Go.Proofs.YtioemkdapoombaaGreatDoor
end
