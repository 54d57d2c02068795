/- The law OrdersX: what it rests on, part 36 of 48. -/
import Derived.Test.YtgcmnpimkfmccaaQOrdersX29
import Derived.Test.YtgcmnpimkfmccaaQOrdersX30
import Derived.Test.YtgcmnpimkfmccaaQOrdersX31
import Derived.Test.YtgcmnpimkfmccaaQOrdersX35
namespace Go.Proofs.Ytgcmnpimkfmccaa
open Go.ChangeShapes Go.WideShapes Go.ChangeAt Go.RowKit
set_option linter.unusedVariables false
/-- a routine's parts in another order -/
def permX (X : List Part2) (O : List Int) : List Part2 := O.map fun k => X.getD k.toNat pZ
theorem permX_len (X : List Part2) (O : List Int) : (permX X O).length = O.length := by simp [permX]
theorem permX_at {X : List Part2} {O : List Int} {i : Nat} (hi : i < O.length) : (permX X O).getD i ([], 0) = X.getD (oI O i) ([], 0) := by
  unfold permX oI
  simp [List.getD, hi, pZ]
theorem patR_perm {X : List Part2} {O : List Int} {i : Nat} (hi : i < O.length) : patR (permX X O) i = patR X (oI O i) ∧ timR (permX X O) i = timR X (oI O i) := by
  unfold patR timR
  rw [permX_at hi]
  exact ⟨rfl, rfl⟩
theorem stR_perm {h : Int} {X : List Part2} {O : List Int} {i : Nat} (hi : i < O.length) : stR h (permX X O) i = stR h X (oI O i) := by
  unfold stR
  rw [(patR_perm hi).1]
section
variable {h : Int} {X : List Part2} {O : List Int}
theorem headN_at (X : List Part2) : headN X = propsP (patR X 0) := rfl
theorem perm_ok (R : RoutOk h X) (hp : PathO X.length O) (hl : O.length = X.length) : RoutOk h (permX X O) ∧ headN (permX X O) = headN X := by
  have hlt : ∀ i, i < O.length → oI O i < X.length := fun i hi => (oI_lt hp hi).1
  have hX := R.hl
  have hh : headN (permX X O) = headN X := by
    rw [headN_at, (patR_perm (X := X) (O := O) (i := 0) (by omega)).1]
    exact R.hn _ (hlt 0 (by omega))
  refine ⟨⟨R.hh, by rw [permX_len]; omega, fun k hk => ?_, fun k hk => ?_, fun k hk => ?_, fun k hk => ?_⟩, hh⟩
  all_goals rw [permX_len] at hk
  · rw [(patR_perm hk).1]; exact R.hv _ (hlt k hk)
  · rw [(patR_perm hk).1]; exact R.hp _ (hlt k hk)
  · rw [(patR_perm hk).1, hh]; exact R.hn _ (hlt k hk)
  · rw [(patR_perm hk).2]; exact R.ht _ (hlt k hk)
theorem perm_gr (R : RoutOk h X) (hp : PathO X.length O) (hl : O.length = X.length) : grR (permX X O) = grR X := by
  unfold grR
  rw [(perm_ok R hp hl).2]
theorem take_last {O : List Int} {i : Nat} (hi : i < O.length) : lastI (O.take (i + 1)) = oI O i := lastI_take hi
theorem br_perm (R : RoutOk h X) (hp : PathO X.length O) (hl : O.length = X.length) {i : Nat} (hi : i < O.length) : ((brAt h (permX X O) i).length : Int) = costO (ordF h X) (O.take i) (O.getD i 0).toNat := by
  have hlt : ∀ i, i < O.length → oI O i < X.length := fun i hi => (oI_lt hp hi).1
  unfold brAt
  rw [seq_succ (by rw [permX_len]; exact hi), stR_perm hi]
  cases i with
  | zero =>
    rw [seq_zero, perm_gr R hp hl]
    unfold costO
    rw [if_pos (by simp)]
    show ordE h X (oI O 0) = ((List.range X.length).map (ordE h X)).getD (oI O 0) 0
    rw [range_at, if_pos (hlt 0 hi)]
  | succ i =>
    rw [seq_succ (by rw [permX_len]; omega), stR_perm (by omega)]
    unfold costO
    rw [if_neg (by intro e; have := congrArg List.length e; rw [List.length_take, List.length_nil] at this; omega), take_last (by omega)]
    show ordD h X (oI O i) (oI O (i + 1)) = ((ordCs h X X.length).getD (oI O i) []).getD (oI O (i + 1)) 0
    rw [ordCs_at, if_pos ⟨hlt i (by omega), hlt (i + 1) hi⟩]
theorem br_perm_last (R : RoutOk h X) (hp : PathO X.length O) (hl : O.length = X.length) : ((brAt h (permX X O) X.length).length : Int) = (ordF h X).last.getD (lastI O) 0 := by
  have hX := R.hl
  have hlt : ∀ i, i < O.length → oI O i < X.length := fun i hi => (oI_lt hp hi).1
  unfold brAt
  have e1 : seqS h (permX X O) (X.length + 1) = grR (permX X O) := by
    have := seq_last h (permX X O)
    rw [permX_len, hl] at this
    exact this
  obtain ⟨m, hm⟩ : ∃ m, X.length = m + 1 := ⟨X.length - 1, by omega⟩
  rw [e1, perm_gr R hp hl, hm, seq_succ (by rw [permX_len]; omega), stR_perm (by omega)]
  have e2 : lastI O = oI O m := by
    rw [lastI_full (by omega)]
    unfold oI
    rw [show O.length - 1 = m by omega]
  rw [e2]
  show ordB h X (oI O m) = ((List.range X.length).map (ordB h X)).getD (oI O m) 0
  rw [range_at, if_pos (hlt m (by omega))]
theorem pathC_sum (F : Far) (O : List Int) : pathC F O = sumN (fun i => costO F (O.take i) (O.getD i 0).toNat) O.length := by
  unfold pathC
  rw [sum_range]
/-- the beats of a routine in another order -/
theorem perm_beats (R : RoutOk h X) (hp : PathO X.length O) (hl : O.length = X.length) : ((thrR h (permX X O)).length : Int) = beatN X X.length + (pathC (ordF h X) O + (ordF h X).last.getD (lastI O) 0) := by
  have hs := thr_sum (perm_ok R hp hl).1 (permX X O).length (Nat.le_refl _)
  unfold thrR
  rw [hs, permX_len, hl]
  have e1 : sumN (fun i => ((brAt h (permX X O) i).length : Int)) (X.length + 1) = pathC (ordF h X) O + (ordF h X).last.getD (lastI O) 0 := by
    show sumN (fun i => ((brAt h (permX X O) i).length : Int)) X.length + ((brAt h (permX X O) X.length).length : Int) = _
    rw [br_perm_last R hp hl, pathC_sum, hl]
    congr 1
    exact sumN_congr fun i hi => br_perm R hp hl (by omega)
  have e2 : sumN (pmul (permX X O)) X.length = beatN X X.length := by
    have e3 : sumN (pmul (permX X O)) X.length = sumN (fun i => pmul X (oI O i)) X.length := sumN_congr fun i hi => by
      unfold pmul
      rw [(patR_perm (X := X) (O := O) (i := i) (by omega)).1, (patR_perm (X := X) (O := O) (i := i) (by omega)).2]
    rw [e3]
    exact perm_sumG (n := X.length) (f := oI O) (pmul X) (fun i hi => (oI_lt hp (by omega)).1) (fun i j hi hj he => oI_inj hp (by omega) (by omega) he)
  rw [e1, e2]
  omega
theorem costR_path (F : Far) : ∀ R O, (∀ x ∈ R, (0 : Int) ≤ x) → pathC F O + costR F O R = pathC F (O ++ R) + F.last.getD (lastI (O ++ R)) 0
  | [], O, _ => by rw [List.append_nil]; rfl
  | k :: R, O, h => by
    have ih := costR_path F R (O ++ [k]) (fun x hx => h x (List.mem_cons_of_mem _ hx))
    obtain ⟨n, rfl⟩ := Int.eq_ofNat_of_zero_le (h k (List.mem_cons_self ..))
    rw [pathC_snoc, List.append_assoc] at ih
    show pathC F O + (costO F O n + costR F (O ++ [(n : Int)]) R) = _
    rw [← Int.add_assoc]
    exact ih
theorem ord_least (R : RoutOk h X) (hp : PathO X.length O) (hl : O.length = X.length) : ∃ q, ordN h X = some q ∧ q.2 ≤ pathC (ordF h X) O + (ordF h X).last.getD (lastI O) 0 := by
  have hB := ordF_bd R
  obtain ⟨q, hq, hle⟩ := walkO_least (F := ordF h X) (fun O k => (ordF_cost R O k).1) (fun k => (ordF_last R k).1) X.length [] 0 none O (by rw [hB.hf]; exact hp) hl
  refine ⟨q, hq, ?_⟩
  have hc := costR_path (ordF h X) O [] (fun x hx => (hp.rg x hx).1)
  have h0 : pathC (ordF h X) [] = 0 := by simp [pathC]
  rw [h0, List.nil_append] at hc
  omega
/-- the fewest beats: no other order has fewer -/
theorem so_least (hv : validR h X = true) (hp : PathO X.length O) (hl : O.length = X.length) : soL h X ≤ ((thrR h (permX X O)).length : Int) := by
  have R := rout_ok hv
  obtain ⟨q, hq, hle⟩ := ord_least R hp hl
  rw [(so_yes hv).2.1, hq, perm_beats R hp hl]
  show q.2 + beatN X X.length ≤ _
  omega
theorem so_path (hv : validR h X = true) : PathO X.length (soX h X) ∧ (soX h X).length = X.length ∧ soL h X = ((thrR h (permX X (soX h X))).length : Int) := by
  have R := rout_ok hv
  have hB := ordF_bd R
  obtain ⟨q, hq, hp, hl, -⟩ := ord_some R
  have hk := walkO_ok (ordF h X) X.length [] 0 none (by rw [hB.hf]; exact PathO.nil _) (by rw [hB.hf]; simp) (by simp [pathC]) True.intro
  have hq' : walkO (ordF h X) X.length [] 0 none = some q := hq
  rw [hq'] at hk
  obtain ⟨-, -, h3⟩ := hk
  obtain ⟨e1, e2, -⟩ := so_yes hv
  have e1 : soX h X = q.1 := by rw [e1, hq]; rfl
  have e2 : soL h X = q.2 + beatN X X.length := by rw [e2, hq]; rfl
  rw [e1, e2, perm_beats R hp hl, h3]
  exact ⟨hp, hl, by omega⟩
theorem upL_getD : ∀ m a i, i < m → (upL a m).getD i 0 = ((a + i : Nat) : Int)
  | 0, a, i, h => by omega
  | m + 1, a, 0, h => by simp [upL]
  | m + 1, a, i + 1, h => by
    have ih := upL_getD m (a + 1) i (by omega)
    show (upL (a + 1) m).getD i 0 = _
    rw [ih]
    congr 1
    omega
theorem upL_path (n : Nat) : PathO n (upL 0 n) := ⟨upL_nd n 0, fun x hx => by have := upL_mem n 0 x hx; omega⟩
theorem permX_up (X : List Part2) : permX X (upL 0 X.length) = X := by
  refine List.ext_getElem (by rw [permX_len, upL_len]) fun i h1 h2 => ?_
  have hi : i < (upL 0 X.length).length := by rw [upL_len]; exact h2
  have e := permX_at (X := X) (O := upL 0 X.length) hi
  have e2 : oI (upL 0 X.length) i = i := by unfold oI; rw [upL_getD _ _ _ h2]; simp
  rw [e2] at e
  simpa [List.getD, h1, h2] using e
theorem permX_rev (X : List Part2) : permX X (upL 0 X.length).reverse = X.reverse := by
  unfold permX
  rw [List.map_reverse]
  have := permX_up X
  unfold permX at this
  rw [this]
theorem upL_path_rev (n : Nat) : PathO n (upL 0 n).reverse := ⟨List.pairwise_reverse.2 ((upL_nd n 0).imp (fun h => fun e => h e.symm)), fun x hx => (upL_path n).rg x (List.mem_reverse.1 hx)⟩
/-- neither the routine nor its reverse has fewer beats -/
theorem so_both (hv : validR h X = true) : soL h X ≤ ((thrR h X).length : Int) ∧ soL h X ≤ ((thrR h X.reverse).length : Int) := by
  have h1 := so_least hv (upL_path X.length) (upL_len _ _)
  have h2 := so_least hv (upL_path_rev X.length) (by rw [List.length_reverse, upL_len])
  rw [permX_up] at h1
  rw [permX_rev] at h2
  exact ⟨h1, h2⟩
end
end Go.Proofs.Ytgcmnpimkfmccaa
