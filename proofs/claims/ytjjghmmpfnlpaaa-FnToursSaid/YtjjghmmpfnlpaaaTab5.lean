/- Contracts of FarthestPair and CenterOf. -/
import Derived.Test.YtjjghmmpfnlpaaaTab4
import Derived.Deep.QuietTactic
namespace Go.Proofs.Ytjjghmmpfnlpaaa
open Go.ChangeShapes Go.WideShapes Go.ChangeAt Go.RowKit
set_option linter.unusedVariables false
set_option linter.unusedSimpArgs false
noncomputable def tabD (X : List (List Int)) (h : Int) (i j : Nat) : Int := farM h ((fstL X h).getD i 0) ((fstL X h).getD j 0)
/-- how a square table of numbers reads -/
def RdTab (n : Nat) (D : Nat → Nat → Int) (w : World) (v : Value) : Prop :=
  ∃ a cap, v = .slice a n cap ∧ ∀ i, i < n → ∃ b off bi oi ci, a = some ⟨b, off, none⟩ ∧ w.cell? ⟨b, off + i, none⟩ = some (.slice (some ⟨bi, oi, none⟩) n ci) ∧ ∀ j, j < n → w.cell? ⟨bi, oi + j, none⟩ = some (.int .i64 (D i j))
theorem RdTab.below {n : Nat} {D : Nat → Nat → Int} {a b : World} {v : Value} (h : RdTab n D a v) (hb : Below a.heap.size a b) : RdTab n D b v := by
  obtain ⟨ad, cap, hv, hc⟩ := h
  refine ⟨ad, cap, hv, fun i hi => ?_⟩
  obtain ⟨bl, off, bi, oi, ci, ha, h1, h2⟩ := hc i hi
  exact ⟨bl, off, bi, oi, ci, ha, keepc hb h1, fun j hj => keepc hb (h2 j hj)⟩
theorem amongTo_at {h : Int} {S : List Int} {k i : Nat} (hi : i < k) : (amongTo h S k).getD i [] = rowTo h S i S.length := by
  simp [amongTo, List.getD, hi]
theorem rowTo_full (h : Int) (S : List Int) (i : Nat) : rowTo h S i S.length = S.map fun t => farM h (S.getD i 0) t := by
  unfold rowTo; rw [List.take_length]
theorem tab_rd {X : List (List Int)} {h : Int} {w : World} {v : Value} (hr : RdG w v (tabL X h)) : RdTab X.length (tabD X h) w v := by
  obtain ⟨a, cap, hv, _, hc⟩ := hr
  have hlen : (tabL X h).length = X.length := by unfold tabL amongL; rw [amongTo_len, fstL_len]
  rw [hlen] at hv hc
  refine ⟨a, cap, hv, fun i hi => ?_⟩
  obtain ⟨b, off, u, ha, hu, ar, car, hru, _, hrc⟩ := hc i hi
  have hrow : (tabL X h).getD i [] = (fstL X h).map fun t => farM h ((fstL X h).getD i 0) t := by
    unfold tabL amongL
    rw [amongTo_at (by rw [fstL_len]; exact hi), rowTo_full]
  rw [hrow] at hru hrc
  rw [List.length_map, fstL_len] at hru hrc
  obtain ⟨bi, oi, har, _⟩ := hrc i hi
  subst har
  refine ⟨b, off, bi, oi, car, ha, by rw [hu, hru], fun j hj => ?_⟩
  obtain ⟨bj, oj, he, hcj⟩ := hrc j hj
  cases he
  rw [hcj]
  have hj' : j < (fstL X h).length := by rw [fstL_len]; exact hj
  simp [tabD, List.getD, hj']
/- the farthest pair -/
def mStep (c : C3) (i k d : Int) : C3 := bif decide (c.2.2 < d) then (i, k, d) else c
def mRow (D : Nat → Nat → Int) (i : Nat) (c : C3) : Nat → C3
  | 0 => c
  | j + 1 => mStep (mRow D i c j) i j (D i j)
def mTo (D : Nat → Nat → Int) (m : Nat) : Nat → C3
  | 0 => (0, 0, -1)
  | i + 1 => mRow D i (mTo D m i) m
theorem mRow_succ (D : Nat → Nat → Int) (i j : Nat) (c : C3) : mRow D i c (j + 1) = mStep (mRow D i c j) i j (D i j) := rfl
theorem mTo_succ (D : Nat → Nat → Int) (m i : Nat) : mTo D m (i + 1) = mRow D i (mTo D m i) m := rfl
theorem mStep_yes {c : C3} {i k d : Int} (h : c.2.2 < d) : mStep c i k d = (i, k, d) := by unfold mStep; simp [h]
theorem mStep_no {c : C3} {i k d : Int} (h : ¬ c.2.2 < d) : mStep c i k d = c := by unfold mStep; simp [h]
/-- what the two numbers of a state say of the third -/
def mInv (D : Nat → Nat → Int) (n : Nat) (s : Bool) (c : C3) (a b : Nat) : Prop :=
  a < n ∧ b < n ∧ c.1 = a ∧ c.2.1 = b ∧ (c.2.2 = D a b ∨ (s = true ∧ c.2.2 = -1 ∧ a = 0 ∧ b = 0))
theorem mInv_yes {D : Nat → Nat → Int} {n : Nat} {s : Bool} {c : C3} {a b i k : Nat} (hi : mInv D n s c a b) (hn : i < n) (hk : k < n) (hs : s = true → i = 0 ∧ k = 0) (h : D i k > D a b) : mInv D n false (mStep c i k (D i k)) i k := by
  obtain ⟨h1, h2, h3, h4, h5⟩ := hi
  rcases h5 with h5 | ⟨h5, h6, h7, h8⟩
  · rw [mStep_yes (by omega)]; exact ⟨hn, hk, rfl, rfl, Or.inl rfl⟩
  · obtain ⟨rfl, rfl⟩ := hs h5
    subst h7 h8
    omega
theorem mInv_no {D : Nat → Nat → Int} {n : Nat} {s : Bool} {c : C3} {a b i k : Nat} (hi : mInv D n s c a b) (hn : i < n) (hk : k < n) (hs : s = true → i = 0 ∧ k = 0) (hD : 0 ≤ D i k) (h : ¬ D i k > D a b) : mInv D n false (mStep c i k (D i k)) a b := by
  obtain ⟨h1, h2, h3, h4, h5⟩ := hi
  rcases h5 with h5 | ⟨h5, h6, h7, h8⟩
  · rw [mStep_no (by omega)]; exact ⟨h1, h2, h3, h4, Or.inl h5⟩
  · obtain ⟨rfl, rfl⟩ := hs h5
    subst h7 h8
    rw [mStep_yes (by omega)]; exact ⟨h1, h2, rfl, rfl, Or.inl rfl⟩
noncomputable def fpA (X : List (List Int)) (h : Int) : Int := if someC X h = 0 then (mTo (tabD X h) X.length X.length).1 else 0
noncomputable def fpB (X : List (List Int)) (h : Int) : Int := if someC X h = 0 then (mTo (tabD X h) X.length X.length).2.1 else 0
theorem some_ok {X : List (List Int)} {h : Int} (hs : someC X h = 0) : tabC X h = 0 ∧ 0 < X.length := by
  unfold someC at hs
  by_cases hc : tabC X h = 0
  · rw [if_pos hc] at hs
    by_cases h0 : X.length = 0
    · rw [if_pos h0] at hs; omega
    · exact ⟨hc, by omega⟩
  · rw [if_neg hc] at hs; exact absurd hs hc
theorem tabD_bd {X : List (List Int)} {h : Int} (hc : tabC X h = 0) : ∀ i j : Nat, i < X.length → j < X.length → 0 ≤ tabD X h i j ∧ tabD X h i j ≤ 1024 := tab_far hc
end Go.Proofs.Ytjjghmmpfnlpaaa
