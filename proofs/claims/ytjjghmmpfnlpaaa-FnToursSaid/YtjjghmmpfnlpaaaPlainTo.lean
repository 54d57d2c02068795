/- Plain facts on tours and groups: a tour that was searched for is the shortest, its pattern is valid, groups hold all places. -/
import Derived.Test.YtjjghmmpfnlpaaaTourP
import Derived.Test.YtjjghmmpfnlpaaaPlainSt
import Derived.Test.YtjjghmmpfnlpaaaFollow
namespace Go.Proofs.Ytjjghmmpfnlpaaa
open Go.ChangeShapes Go.WideShapes Go.ChangeAt Go.RowKit
set_option linter.unusedVariables false
/-- what is still to come behind an order -/
def costR (F : Far) (O : List Int) : List Int → Int
  | [] => F.last.getD (lastI O) 0
  | k :: R => costO F O k.toNat + costR F (O ++ [k]) R
theorem costR_nonneg {F : Far} (hc : ∀ O k, 0 ≤ costO F O k) (hl : ∀ k, 0 ≤ F.last.getD k 0) : ∀ R O, 0 ≤ costR F O R
  | [], O => hl _
  | k :: R, O => by
    have h1 := hc O k.toNat
    have h2 := costR_nonneg hc hl R (O ++ [k])
    show 0 ≤ costO F O k.toNat + costR F (O ++ [k]) R
    omega
theorem foldO_keep (F : Far) (d : Nat) (O : List Int) (s : Int) (b : Option (List Int × Int)) {k : Nat} {q : List Int × Int} (h : foldO F d O s b k = some q) : ∀ j, ∃ r, foldO F d O s b (k + j) = some r ∧ r.2 ≤ q.2
  | 0 => ⟨q, h, Int.le_refl _⟩
  | j + 1 => by
    obtain ⟨r, hr, hl⟩ := foldO_keep F d O s b h j
    rw [← Nat.add_assoc, foldO_succ, hr]
    unfold roundO
    split
    · exact ⟨r, rfl, hl⟩
    · obtain ⟨r2, h2, hl2⟩ := walkO_some F d (O ++ [((k + j : Nat) : Int)]) (s + costO F O (k + j)) r
      exact ⟨r2, h2, by omega⟩
/-- what the search keeps is not longer than any order -/
theorem walkO_least {F : Far} (hc : ∀ O k, 0 ≤ costO F O k) (hl : ∀ k, 0 ≤ F.last.getD k 0) : ∀ d O s b R, PathO F.first.length (O ++ R) → R.length = d → ∃ q, walkO F d O s b = some q ∧ q.2 ≤ s + costR F O R
  | 0, O, s, b, R, hp, hR => by
    obtain rfl : R = [] := List.eq_nil_of_length_eq_zero hR
    have hl0 := hl (lastI O)
    show ∃ q : List Int × Int, walkO F 0 O s b = some q ∧ q.2 ≤ s + F.last.getD (lastI O) 0
    cases h : cutO b s
    · rw [walkO_zero F O s _ h]
      cases b with
      | none => exact ⟨_, rfl, Int.le_refl _⟩
      | some p =>
        unfold betO
        by_cases h2 : s + F.last.getD (lastI O) 0 < p.2
        · simp only [h2, if_true]; exact ⟨_, rfl, Int.le_refl _⟩
        · simp only [h2, if_false]; exact ⟨_, rfl, by omega⟩
    · rw [walkO_cut F _ O s _ h]
      cases b with
      | none => cases h
      | some p =>
        have h2 : p.2 ≤ s := by simpa [cutO] using h
        exact ⟨p, rfl, by omega⟩
  | d + 1, O, s, b, [], hp, hR => by simp at hR
  | d + 1, O, s, b, k :: R, hp, hR => by
    have hnn := costR_nonneg hc hl R (O ++ [k])
    have hck := hc O k.toNat
    show ∃ q : List Int × Int, walkO F (d + 1) O s b = some q ∧ q.2 ≤ s + (costO F O k.toNat + costR F (O ++ [k]) R)
    cases h : cutO b s
    · rw [walkO_succ F d O s _ h]
      have hrg := hp.rg k (by simp)
      have hnd : k ∉ O := by
        have h3 := hp.nd
        rw [List.nodup_append] at h3
        intro hm
        exact h3.2.2 k hm k (by simp) rfl
      have ek : (k.toNat : Int) = k := by omega
      obtain ⟨q, hq, hl2⟩ := walkO_least hc hl d (O ++ [k]) (s + costO F O k.toNat) (foldO F d O s b k.toNat) R (by rw [List.append_assoc]; exact hp) (by simpa using hR)
      have h4 : foldO F d O s b (k.toNat + 1) = some q := by
        rw [foldO_succ]
        unfold roundO
        rw [ek, if_neg hnd]
        exact hq
      obtain ⟨r, hr, hl3⟩ := foldO_keep F d O s b h4 (F.first.length - (k.toNat + 1))
      rw [show k.toNat + 1 + (F.first.length - (k.toNat + 1)) = F.first.length by omega] at hr
      exact ⟨r, hr, by omega⟩
    · rw [walkO_cut F _ O s _ h]
      cases b with
      | none => cases h
      | some p =>
        have h2 : p.2 ≤ s := by simpa [cutO] using h
        exact ⟨p, rfl, by omega⟩
/-- numbers from a on -/
def upL (a : Nat) : Nat → List Int
  | 0 => []
  | m + 1 => (a : Int) :: upL (a + 1) m
theorem upL_len : ∀ m a, (upL a m).length = m
  | 0, _ => rfl
  | m + 1, a => by show (upL (a + 1) m).length + 1 = m + 1; rw [upL_len m]
theorem upL_mem : ∀ m a x, x ∈ upL a m → ((a : Int) ≤ x ∧ x < (a : Int) + m)
  | 0, a, x, h => by simp [upL] at h
  | m + 1, a, x, h => by
    rcases List.mem_cons.1 h with rfl | h
    · omega
    · have := upL_mem m (a + 1) x h; omega
theorem upL_nd : ∀ m a, (upL a m).Nodup
  | 0, _ => List.nodup_nil
  | m + 1, a => List.nodup_cons.2 ⟨fun h => by have := upL_mem m (a + 1) _ h; omega, upL_nd m (a + 1)⟩
theorem sumN_shift (f : Nat → Int) : ∀ n, sumN f (n + 1) = f 0 + sumN (fun i => f (i + 1)) n
  | 0 => by simp [sumN]
  | n + 1 => by
    have ih := sumN_shift f n
    show sumN f (n + 1) + f (n + 1) = f 0 + (sumN (fun i => f (i + 1)) n + f (n + 1))
    omega
theorem costR_up {D : Nat → Nat → Int} {n : Nat} : ∀ m a O, O ≠ [] → lastI O = a → a + 1 + m = n → costR (tourG D n) O (upL (a + 1) m) = sumN (fun t => D (a + t) ((a + t + 1) % n)) (m + 1)
  | 0, a, O, hO, hl, hn => by
    show (tourG D n).last.getD (lastI O) 0 = _
    rw [hl]
    show ((List.range n).map fun k => D k 0).getD a 0 = _
    rw [range_at, if_pos (by omega)]
    simp only [sumN, Nat.add_zero, Int.zero_add]
    rw [show a + 1 = n by omega, Nat.mod_self]
  | m + 1, a, O, hO, hl, hn => by
    show costO (tourG D n) O ((((a + 1 : Nat) : Int))).toNat + costR (tourG D n) (O ++ [((a + 1 : Nat) : Int)]) (upL (a + 1 + 1) m) = _
    rw [costR_up m (a + 1) _ (by simp) (lastI_snoc O (a + 1)) (by omega), sumN_shift (fun t => D (a + t) ((a + t + 1) % n)) (m + 1)]
    congr 1
    · unfold costO
      rw [if_neg hO, hl]
      show ((costL n D).getD a []).getD _ 0 = _
      rw [Int.toNat_natCast, cost_at, if_pos ⟨by omega, by omega⟩, Nat.add_zero, Nat.mod_eq_of_lt (by omega)]
      rfl
    · refine sumN_congr fun i _ => ?_
      rw [show a + 1 + i = a + (i + 1) by omega]
theorem tour_least {D : Nat → Nat → Int} {n : Nat} (hn : 1 ≤ n ∧ n ≤ 8) (hD : ∀ i j, i < n → j < n → 0 ≤ D i j ∧ D i j ≤ 1024) : ∃ q, tourO D n = some q ∧ q.2 ≤ sumN (fun t => D t ((t + 1) % n)) n := by
  have hB := tourG_bd hn hD
  have hp : PathO (tourG D n).first.length ([(0 : Int)] ++ upL 1 (n - 1)) := by
    rw [hB.hf]
    refine ⟨?_, ?_⟩
    · show ((0 : Int) :: upL 1 (n - 1)).Nodup
      exact List.nodup_cons.2 ⟨fun h => by have := upL_mem _ _ _ h; omega, upL_nd _ _⟩
    · intro x hx
      rcases List.mem_append.1 hx with hx | hx
      · simp at hx; subst hx; omega
      · have := upL_mem _ _ _ hx; omega
  obtain ⟨q, hq, hl⟩ := walkO_least (F := tourG D n) (fun O k => (hB.hc O k).1) (fun k => (hB.hl k).1) (n - 1) [0] 0 none (upL 1 (n - 1)) hp (upL_len _ _)
  refine ⟨q, hq, ?_⟩
  rw [Int.zero_add, costR_up (n - 1) 0 [0] (by simp) (by simp [lastI]) (by omega)] at hl
  simp only [Nat.zero_add] at hl
  rwa [show n - 1 + 1 = n by omega] at hl
theorem st_least {X : List (List Int)} {h : Int} (hs : someC X h = 0) : stL X h ≤ sumN (fun t => tabD X h t ((t + 1) % X.length)) X.length := by
  obtain ⟨hc, hl⟩ := some_okT hs
  obtain ⟨q, hq, hle⟩ := tour_least (D := tabD X h) (n := X.length) ⟨by omega, (tab_ok hc).2.1⟩ (tab_far hc)
  rw [(stO_zero hs).2, hq]
  exact hle
theorem grp_len (D : Nat → Nat → Int) : ∀ n, sumLen (grpTo D n) = n
  | 0 => rfl
  | n + 1 => by
    have ih := grp_len D n
    rw [grpTo_succ]
    unfold fgrp
    split
    · rename_i h
      rw [sumLen_set _ _ _ h, ih]
    · rw [sumLen_push, ih]; rfl
theorem fg_len {X : List (List Int)} {h : Int} (hs : someC X h = 0) : sumLen (fgL X h) = X.length := by
  obtain ⟨hc, hl⟩ := some_okT hs
  unfold fgL
  rw [if_pos hc]
  exact grp_len _ _
/-- a tour's pattern is valid -/
theorem tp_okV {X : List (List Int)} {h : Int} (hs : someC X h = 0) (hl : (tpL X h).length ≤ 12) : validP (tpL X h) = true ∧ propsP (tpL X h) = propsP (X.getD 0 []) := by
  obtain ⟨hc, hl0⟩ := some_okT hs
  obtain ⟨hp, hlen, h0, -⟩ := st_facts hs
  obtain ⟨hh, -, hall⟩ := tab_ok hc
  have hO : ∀ i, i < X.length → oI (stO X h) i < X.length := fun i hi => (oI_lt hp (by omega)).1
  have hm : ∀ i, i < X.length → stM (X.getD i []) 0 h ∈ maskL (propsP (X.getD 0 [])) h := fun i hi => by
    obtain ⟨k1, k2, k3⟩ := hall i hi
    rw [← k3]; exact stM_mem k1 0 hh k2
  have hst : oI (stO X h) 0 = 0 := by unfold oI; rw [h0]; rfl
  have key : ∀ k, k ≤ X.length → Wk h (stM (X.getD (oI (stO X h) 0) []) 0 h) (tpTo X h (stO X h) k) (stM (X.getD (oI (stO X h) (k % X.length)) []) 0 h) := by
    intro k
    induction k with
    | zero => intro _; rw [Nat.zero_mod]; exact rfl
    | succ k ih =>
      intro hk
      have ih := ih (by omega)
      rw [Nat.mod_eq_of_lt (by omega)] at ih
      have hk1 : (k + 1) % X.length < X.length := Nat.mod_lt _ (by omega)
      obtain ⟨j1, j2, -⟩ := hall _ (hO k (by omega))
      show Wk h _ (tpTo X h (stO X h) k ++ X.getD (oI (stO X h) k) [] ++ bridgeL (X.getD (oI (stO X h) k) []) (X.getD (oI (stO X h) ((k + 1) % (stO X h).length)) []) h) _
      rw [hlen]
      exact (ih.append (wk_pat j1 hh j2)).append (short_wk hh (hm _ (hO k (by omega))) (hm _ (hO _ hk1)))
  have hw := key X.length (Nat.le_refl _)
  rw [Nat.mod_self, hst] at hw
  have hw : Wk h (stM (X.getD 0 []) 0 h) (tpL X h) (stM (X.getD 0 []) 0 h) := by
    unfold tpL
    rw [hlen]; exact hw
  have h1 : 1 ≤ (tpL X h).length := by
    unfold tpL
    rw [hlen]
    obtain ⟨m, hm⟩ : ∃ m, X.length = m + 1 := ⟨X.length - 1, by omega⟩
    rw [hm]
    show 1 ≤ (tpTo X h (stO X h) m ++ X.getD (oI (stO X h) m) [] ++ _).length
    have := (validP_iff.1 (hall _ (hO m (by omega))).1).1.2
    rw [List.length_append, List.length_append]
    omega
  exact ring_ok hh (hm 0 (by omega)) hw ⟨h1, hl⟩
/-- the places that a tour has seen -/
def seenF (O : List Int) : Nat → Nat → Bool
  | 0, _ => false
  | k + 1, v => if v = oI O k then true else seenF O k v
theorem seenF_not {n : Nat} {O : List Int} (hp : PathO n O) {j : Nat} (hj : j < O.length) : ∀ k, k ≤ j → seenF O k (oI O j) = false
  | 0, _ => rfl
  | k + 1, h => by
    show (if oI O j = oI O k then true else seenF O k (oI O j)) = false
    rw [if_neg (fun e => by have := oI_inj hp hj (by omega) e; omega)]
    exact seenF_not hp hj k (by omega)
theorem sumT_bd {n : Nat} {f : Nat → Int} (hf : ∀ i, i < n → 0 ≤ f i ∧ f i ≤ 1024) : ∀ k, k ≤ n → 0 ≤ sumN f k ∧ sumN f k ≤ 1024 * k
  | 0, _ => by simp [sumN]
  | k + 1, h => by
    have ih := sumT_bd hf k (by omega)
    have := hf k (by omega)
    simp only [sumN]
    omega
end Go.Proofs.Ytjjghmmpfnlpaaa
