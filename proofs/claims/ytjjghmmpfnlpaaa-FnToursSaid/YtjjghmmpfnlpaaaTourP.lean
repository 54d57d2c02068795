/- Plain facts on the pattern of a tour; a step that appends a slice in a drawn region. -/
import Derived.Test.YtjjghmmpfnlpaaaTourX
import Derived.Deep.RegionLaw
import Derived.Deep.RegionHeld3
namespace Go.Proofs.Ytjjghmmpfnlpaaa
open Go.ChangeShapes Go.WideShapes Go.ChangeAt Go.RowKit
set_option linter.unusedVariables false
theorem perm_sumG {n : Nat} {f : Nat → Nat} (g : Nat → Int) (hf : ∀ i, i < n → f i < n) (hi : ∀ i j, i < n → j < n → f i = f j → i = j) : sumN (fun i => g (f i)) n = sumN g n := by
  have h1 : sumN (fun i => g (f i)) n = sumN (fun i => sumN (fun v => if v = f i then g v else 0) n) n := sumN_congr fun i hin => by
    have e : sumN (fun v => if v = f i then g v else 0) n = sumN (fun v => if v = f i then g (f i) else 0) n := sumN_congr fun v _ => by
      by_cases h : v = f i
      · rw [if_pos h, if_pos h, h]
      · rw [if_neg h, if_neg h]
    rw [e, sumN_single, if_pos (hf i hin)]
  rw [h1, sumN_swap (fun i v => if v = f i then g v else 0) n n]
  refine sumN_congr fun v hv => ?_
  have e : sumN (fun i => if v = f i then g v else 0) n = sumN (fun i => g v * (if f i = v then 1 else 0)) n := sumN_congr fun i _ => by
    by_cases h : f i = v
    · rw [if_pos h.symm, if_pos h, Int.mul_one]
    · rw [if_neg (fun e => h e.symm), if_neg h, Int.mul_zero]
  rw [e, sumN_mul, hits_one hf hi v hv, Int.mul_one]
theorem sum_range (f : Nat → Int) (n : Nat) : ((List.range n).map f).sum = sumN f n := by
  induction n with
  | zero => rfl
  | succ n ih => rw [List.range_succ, List.map_append, List.sum_append, ih]; simp [sumN]
theorem lastI_take {O : List Int} {j : Nat} (hj : j < O.length) : lastI (O.take (j + 1)) = (O.getD j 0).toNat := by
  rw [take_row hj]; simp [lastI]
theorem lastI_full {O : List Int} (h : 0 < O.length) : lastI O = (O.getD (O.length - 1) 0).toNat := by
  have := lastI_take (O := O) (j := O.length - 1) (by omega)
  rw [show O.length - 1 + 1 = O.length by omega, List.take_length] at this
  exact this
/-- an order that is kept begins as the order so far -/
theorem walkO_head (F : Far) : ∀ d O s b, O ≠ [] → O.getD 0 0 = 0 → (∀ p, b = some p → p.1.getD 0 0 = 0) → ∀ q, walkO F d O s b = some q → q.1.getD 0 0 = 0
  | 0, O, s, b, hO, h0, hb, q, hq => by
    cases h : cutO b s
    · rw [walkO_zero F O s _ h] at hq
      cases b with
      | none => cases hq; exact h0
      | some p =>
        unfold betO at hq
        by_cases h2 : s + F.last.getD (lastI O) 0 < p.2
        · simp only [h2, if_true] at hq; cases hq; exact h0
        · simp only [h2, if_false] at hq; cases hq; exact hb _ rfl
    · rw [walkO_cut F _ O s _ h] at hq; exact hb _ hq
  | d + 1, O, s, b, hO, h0, hb, q, hq => by
    cases h : cutO b s
    · rw [walkO_succ F d O s _ h] at hq
      have key : ∀ k p, foldO F d O s b k = some p → p.1.getD 0 0 = 0 := by
        intro k
        induction k with
        | zero => exact hb
        | succ k ih =>
          intro p hp
          rw [foldO_succ] at hp
          unfold roundO at hp
          by_cases h3 : (k : Int) ∈ O
          · rw [if_pos h3] at hp; exact ih p hp
          · rw [if_neg h3] at hp
            refine walkO_head F d _ _ _ (by simp) ?_ ih p hp
            obtain ⟨x, xs, rfl⟩ := List.exists_cons_of_ne_nil hO
            simpa using h0
      exact key _ q hq
    · rw [walkO_cut F _ O s _ h] at hq; exact hb _ hq
def oI (O : List Int) (i : Nat) : Nat := (O.getD i 0).toNat
theorem oI_lt {n : Nat} {O : List Int} (h : PathO n O) {i : Nat} (hi : i < O.length) : oI O i < n ∧ O.getD i 0 = (oI O i : Int) := by
  have hm : O.getD i 0 ∈ O := by rw [List.getD_eq_getElem?_getD, List.getElem?_eq_getElem hi]; exact List.getElem_mem hi
  have := h.rg _ hm
  unfold oI
  omega
theorem oI_inj {n : Nat} {O : List Int} (h : PathO n O) {i j : Nat} (hi : i < O.length) (hj : j < O.length) (he : oI O i = oI O j) : i = j := by
  have e1 := (oI_lt h hi).2
  have e2 := (oI_lt h hj).2
  have e3 : O[i] = O[j] := by
    rw [List.getD_eq_getElem?_getD, List.getElem?_eq_getElem hi] at e1
    rw [List.getD_eq_getElem?_getD, List.getElem?_eq_getElem hj] at e2
    simp only [Option.getD_some] at e1 e2
    omega
  have hpw := List.pairwise_iff_getElem.1 h.nd
  rcases Nat.lt_trichotomy i j with hlt | hlt | hlt
  · exact absurd e3 (hpw i j hi hj hlt)
  · exact hlt
  · exact absurd e3.symm (hpw j i hj hi hlt)
/-- the throws of a tour, up to its k-th pattern -/
noncomputable def tpTo (X : List (List Int)) (h : Int) (O : List Int) : Nat → List Int
  | 0 => []
  | k + 1 => tpTo X h O k ++ X.getD (oI O k) [] ++ bridgeL (X.getD (oI O k) []) (X.getD (oI O ((k + 1) % O.length)) []) h
noncomputable def tpL (X : List (List Int)) (h : Int) : List Int := tpTo X h (stO X h) (stO X h).length
noncomputable def tpC (X : List (List Int)) (h : Int) : Int := if someC X h = 0 then (if (tpL X h).length > 12 then 5 else 0) else someC X h
noncomputable def tpX (X : List (List Int)) (h : Int) : List Int := if someC X h = 0 then (if (tpL X h).length > 12 then [] else tpL X h) else []
theorem tpX_len (X : List (List Int)) (h : Int) : (tpX X h).length ≤ 1000000 := by
  unfold tpX
  split
  · split
    · simp
    · omega
  · simp
theorem tp_sum (X : List (List Int)) (h : Int) (O : List Int) : ∀ k, ((tpTo X h O k).length : Int) = sumN (fun i => ((X.getD (oI O i) []).length : Int)) k + sumN (fun i => ((bridgeL (X.getD (oI O i) []) (X.getD (oI O ((i + 1) % O.length)) []) h).length : Int)) k
  | 0 => rfl
  | k + 1 => by
    have ih := tp_sum X h O k
    show ((tpTo X h O k ++ X.getD (oI O k) [] ++ bridgeL _ _ h).length : Int) = _
    rw [List.length_append, List.length_append]
    simp only [sumN]
    omega
theorem st_facts {X : List (List Int)} {h : Int} (hs : someC X h = 0) : PathO X.length (stO X h) ∧ (stO X h).length = X.length ∧ (stO X h).getD 0 0 = 0 ∧ stL X h = sumN (fun i => tabD X h (oI (stO X h) i) (oI (stO X h) ((i + 1) % (stO X h).length))) X.length := by
  obtain ⟨hc, hl⟩ := some_okT hs
  have hn : 1 ≤ X.length ∧ X.length ≤ 8 := ⟨by omega, (tab_ok hc).2.1⟩
  have hD : ∀ i j, i < X.length → j < X.length → 0 ≤ tabD X h i j ∧ tabD X h i j ≤ 1024 := tab_far hc
  obtain ⟨q, hq, hp, hlen, -⟩ := tour_some hn hD
  have hB := tourG_bd hn hD
  obtain ⟨e1, e2⟩ := stO_zero hs
  rw [hq] at e1 e2
  have e1 : stO X h = q.1 := e1
  have e2 : stL X h = q.2 := e2
  rw [e1, e2]
  have hq' : walkO (tourG (tabD X h) X.length) (X.length - 1) [0] 0 none = some q := hq
  have h0 : q.1.getD 0 0 = 0 := walkO_head _ _ _ _ _ (by simp) (by simp) (fun p hp => by cases hp) q hq'
  refine ⟨hp, hlen, h0, ?_⟩
  have hok := walkO_ok (tourG (tabD X h) X.length) (X.length - 1) [0] 0 none (by rw [hB.hf]; exact ⟨by simp, by intro x hx; simp at hx; subst hx; omega⟩) (by rw [hB.hf]; simp; omega) (by
    unfold pathC
    have e : costO (tourG (tabD X h) X.length) [] 0 = 0 := by
      unfold costO
      rw [if_pos rfl]
      show (List.replicate X.length (0 : Int)).getD 0 0 = 0
      simp [List.getD, show 0 < X.length by omega]
    simp [e]) True.intro
  rw [hq'] at hok
  obtain ⟨-, -, h3⟩ := hok
  generalize hn2 : X.length = n at *
  generalize hO : q.1 = O at *
  rw [h3]
  obtain ⟨m, rfl⟩ : ∃ m, n = m + 1 := ⟨n - 1, by omega⟩
  unfold pathC
  rw [sum_range, hlen]
  -- the first place costs nothing; each next one costs the way to it
  have hcost : ∀ i, i < m → costO (tourG (tabD X h) (m + 1)) (O.take (i + 1)) (O.getD (i + 1) 0).toNat = tabD X h (oI O i) (oI O ((i + 1) % (m + 1))) := by
    intro i hi
    unfold costO
    rw [if_neg (by intro e; have h9 := congrArg List.length e; rw [List.length_take, List.length_nil] at h9; omega)]
    show ((costL (m + 1) (tabD X h)).getD (lastI (O.take (i + 1))) []).getD _ 0 = _
    rw [lastI_take (by omega), cost_at, if_pos ⟨(oI_lt hp (by omega)).1, (oI_lt hp (by omega)).1⟩, Nat.mod_eq_of_lt (by omega)]
    rfl
  have hfirst : costO (tourG (tabD X h) (m + 1)) (O.take 0) (O.getD 0 0).toNat = 0 := by
    unfold costO
    rw [if_pos (by simp), h0]
    show (List.replicate (m + 1) (0 : Int)).getD 0 0 = 0
    simp [List.getD]
  have hshift : ∀ k, k ≤ m → sumN (fun i => costO (tourG (tabD X h) (m + 1)) (O.take i) (O.getD i 0).toNat) (k + 1) = sumN (fun i => tabD X h (oI O i) (oI O ((i + 1) % (m + 1)))) k := by
    intro k
    induction k with
    | zero => intro _; simp only [sumN]; rw [hfirst]; rfl
    | succ k ih =>
      intro hk
      have e := ih (by omega)
      show sumN _ (k + 1) + costO _ (O.take (k + 1)) (O.getD (k + 1) 0).toNat = sumN _ k + _
      rw [e, hcost k (by omega)]
  rw [hshift m (Nat.le_refl _)]
  have hlast : (tourG (tabD X h) (m + 1)).last.getD (lastI O) 0 = tabD X h (oI O m) (oI O ((m + 1) % (m + 1))) := by
    have e : (tourG (tabD X h) (m + 1)).last.getD (lastI O) 0 = if lastI O < m + 1 then tabD X h (lastI O) 0 else 0 := range_at (m + 1) _ _
    have e3 : lastI O = oI O m := by
      rw [lastI_full (by omega), hlen]; rfl
    rw [e, e3, if_pos (oI_lt hp (by omega)).1, Nat.mod_self]
    have : oI O 0 = 0 := by unfold oI; rw [h0]; rfl
    rw [this]
  rw [hlast]
  rfl
theorem tp_total {X : List (List Int)} {h : Int} (hs : someC X h = 0) : ((tpL X h).length : Int) = stL X h + sumN (fun i => ((X.getD i []).length : Int)) X.length := by
  obtain ⟨hc, -⟩ := some_okT hs
  obtain ⟨hp, hlen, -, hL⟩ := st_facts hs
  unfold tpL
  rw [tp_sum, hL]
  have e1 : sumN (fun i => ((X.getD (oI (stO X h) i) []).length : Int)) (stO X h).length = sumN (fun i => ((X.getD i []).length : Int)) X.length := by
    rw [hlen]
    exact perm_sumG (fun i => ((X.getD i []).length : Int)) (fun i hi => (oI_lt hp (by omega)).1) (fun i j hi hj he => oI_inj hp (by omega) (by omega) he)
  have e2 : sumN (fun i => ((bridgeL (X.getD (oI (stO X h) i) []) (X.getD (oI (stO X h) ((i + 1) % (stO X h).length)) []) h).length : Int)) (stO X h).length = sumN (fun i => tabD X h (oI (stO X h) i) (oI (stO X h) ((i + 1) % (stO X h).length))) X.length := by
    rw [hlen]
    refine sumN_congr fun i hi => ?_
    have h1 := (oI_lt hp (i := i) (by omega)).1
    have h2 := (oI_lt hp (i := (i + 1) % X.length) (by rw [hlen]; exact Nat.mod_lt _ (by omega))).1
    exact (bridge_far hc h1 h2).1
  rw [e1, e2]; omega
theorem tp_bd {X : List (List Int)} {h : Int} (hs : someC X h = 0) : ∀ k, k ≤ X.length → (tpTo X h (stO X h) k).length ≤ k * 1036 := by
  obtain ⟨hc, -⟩ := some_okT hs
  obtain ⟨hp, hlen, -, -⟩ := st_facts hs
  intro k
  induction k with
  | zero => intro _; simp [tpTo]
  | succ k ih =>
    intro hk
    have h0 := ih (by omega)
    have h1 := (oI_lt hp (i := k) (by omega)).1
    have h2 := (oI_lt hp (i := (k + 1) % (stO X h).length) (Nat.mod_lt _ (by omega))).1
    have h3 := (bridge_far hc h1 h2).2
    have h4 := (validP_iff.1 ((tab_ok hc).2.2 _ h1).1).1.2
    show (tpTo X h (stO X h) k ++ X.getD (oI (stO X h) k) [] ++ bridgeL _ _ h).length ≤ _
    rw [List.length_append, List.length_append]
    omega
theorem step_push_ints {P : Program} {ops : Array Oper} {o : Oper} {a : Act} {K : Act → World → Prop} {Q : Exit → Act → World → Prop} {Ep : Prop} {e : TypeId} (hgd : o.guard = none) (s x : Operand) (t : TypeId)
    (ho : o.op = .call { callee := .builtin .append, args := #[s, x], argTypes := #[t, t] })
    (ht : P.underlying t = some (.slice e)) (hinfo : (P.info? e).map (fun i => (i.zero, i.size, i.bytes)) = some (some (.int .i64 0), 1, 8))
    (B : Nat) (v u : Value) (xs ys : List Int) (w0 : World) (hs : a.eval s = v) (hx : a.eval x = u)
    (hown : OwnI e B w0 v xs) (hv : ∃ ad n cap, v = .slice (some ad) n cap) (hr : RdI w0 u ys) (hlen : xs.length + ys.length < 1000000000) (hB : B ≤ w0.heap.size)
    (h : ∀ v' w', OwnI e B w' v' (xs ++ ys) → w0.grownBy w' v.ownBlock → (∃ ad n cap, v' = .slice (some ad) n cap) → w0.heap.size ≤ w'.heap.size → K (a.put o.dst v') w') :
    if Region.wanted o (yielded ops a.tmps) = true then Oper.wp P o a w0 K Q else Ep := by
  obtain ⟨i0, hi, hz0, hz1, hz2⟩ := info_parts hinfo
  have e1 : (xs ++ ys).length = xs.length + ys.length := by simp
  have e2 : ints (xs ++ ys) = ints xs ++ ints ys := by simp [ints]
  obtain ⟨au, cu, rfl, hul, huc⟩ := hr
  have hw : Region.wanted o (yielded ops a.tmps) = true := by simp [Region.wanted, hgd]
  obtain ⟨ad0, n0, cap0, hvv⟩ := hv
  cases ys with
  | nil =>
    rw [if_pos hw]
    rcases hown.2 with ⟨hnil, _⟩ | ⟨g, cap, cur, hve, hg, hh, hn, hm, hcs, hcells⟩
    · rw [hvv] at hnil; cases hnil
    · subst hve
      cases au with
      | none =>
        have hrun := run_append_room_src (P := P) w0 t t o.type e i0 ht hi g 0 xs.length cap (.slice none ([] : List Int).length cu) 0 [] (Src.ofNil w0 ht cu) (by omega) (fun j hj => by simp at hj) (fun j hj => by simp at hj)
        unfold Oper.wp execOp
        simp only [ho, resolve, invoke, builtin, Sem.run_bind, Sem.run_pure, Result.andThen_ok, List.map_toArray, List.map_cons, List.map_nil, hs, hx, hrun]
        exact h _ _ (by rw [List.append_nil]; exact hown) (grownBy_refl _ _) ⟨_, _, _, rfl⟩ (Nat.le_refl _)
      | some q =>
        have hrun := run_append_room_cells (P := P) w0 t o.type e i0 ht hi g 0 xs.length cap q 0 cu [] (by simp) (fun j u hu => by simp at hu) (fun u hu => by simp at hu) (by omega) (fun j hj => by simp at hj) (fun j hj => by simp at hj)
        unfold Oper.wp
        simp [execOp, ho, resolve, invoke, builtin, hs, hx, hrun, Result.andThen]
        exact h _ _ (by rw [List.append_nil]; exact hown) (grownBy_refl _ _) ⟨_, _, _, rfl⟩ (Nat.le_refl _)
  | cons y ys =>
    obtain ⟨b, off, rfl, -⟩ := huc 0 (by simp)
    refine step_append_lies (w := w0) hgd s x t ho B e i0 (.int .i64 0) 1 8 ht hi hz0 hz1 hz2 rfl (by decide) v xs.length (ints xs) hs hown ⟨b, off, none⟩ (y :: ys).length cu (ints (y :: ys)) hx (by simp [ints]) ?_ ?_ (by simp) ?_ ?_ hB _ rfl ?_
    · intro j u hu
      have hj : j < (y :: ys).length := by have := (List.getElem?_eq_some_iff.1 hu).1; simpa [ints] using this
      obtain ⟨b', off', hb, hc⟩ := huc j hj
      cases hb
      rw [Go.WideShapes.add_plain, hc]
      simp only [ints, List.getElem?_map, List.getElem?_eq_getElem hj, Option.map_some, Option.some.injEq] at hu
      rw [← hu]
      simp only [List.getD_eq_getElem?_getD, List.getElem?_eq_getElem hj, Option.getD_some]
    · intro u hu
      obtain ⟨y, _, rfl⟩ := List.mem_map.1 hu
      rfl
    · unfold maxLen; omega
    · omega
    · intro g' cap' w' ho' hg hat hglt
      refine h _ w' ?_ hg ⟨_, _, _, rfl⟩ hg.size
      unfold OwnI
      rw [e1, e2]
      exact ho'
end Go.Proofs.Ytjjghmmpfnlpaaa
