/- Plain lemmas: the greatest of some numbers; the diameter. No program. -/
import Derived.Test.YtecdmnncfloagaaPlainC
namespace Go.Proofs.Ytecdmnncfloagaa
def mxF (b : Int) (l : List Int) : Int := l.foldl max b
theorem mxF_snoc (b x : Int) (l : List Int) : mxF b (l ++ [x]) = max (mxF b l) x := by simp [mxF]
theorem mxF_ge (b : Int) (l : List Int) : b ≤ mxF b l ∧ (∀ v ∈ l, v ≤ mxF b l) ∧ (mxF b l = b ∨ mxF b l ∈ l) := by
  induction l generalizing b with
  | nil => exact ⟨Int.le_refl _, fun v hv => (by cases hv), Or.inl rfl⟩
  | cons x l ih =>
    obtain ⟨h1, h2, h3⟩ := ih (max b x)
    have e : mxF b (x :: l) = mxF (max b x) l := rfl
    rw [e]
    refine ⟨by omega, fun v hv => ?_, ?_⟩
    · rcases List.mem_cons.1 hv with rfl | hv
      · omega
      · exact h2 v hv
    · rcases h3 with h3 | h3
      · by_cases hbx : b ≤ x
        · right; rw [h3, show max b x = x by omega]; exact List.mem_cons_self ..
        · left; rw [h3]; omega
      · right; exact List.mem_cons_of_mem _ h3
theorem mxF_is {b r : Int} {l : List Int} (h1 : b ≤ r) (h2 : ∀ v ∈ l, v ≤ r) (h3 : r = b ∨ r ∈ l) : r = mxF b l := by
  obtain ⟨k1, k2, k3⟩ := mxF_ge b l
  have a1 : r ≤ mxF b l := by
    rcases h3 with h | h
    · omega
    · exact k2 _ h
  have a2 : mxF b l ≤ r := by
    rcases k3 with h | h
    · omega
    · exact h2 _ h
  omega
theorem maskL_len' (n h : Int) (hh : 1 ≤ h ∧ h ≤ 10) : (maskL n h).length ≤ 1024 := by
  have h1 := maskTo_len n (2 ^ h.toNat)
  have h2 : 2 ^ h.toNat ≤ 2 ^ 10 := Nat.pow_le_pow_right (by omega) (by omega)
  unfold maskL
  omega
noncomputable def diamTo (n h : Int) (k : Nat) : Int := ((maskL n h).take k).foldl (fun acc m => mxF acc ((maskL n h).map (farM h m))) 0
theorem diamTo_zero (n h : Int) : diamTo n h 0 = 0 := by simp [diamTo]
theorem diamTo_succ {n h : Int} {k : Nat} (hk : k < (maskL n h).length) : diamTo n h (k + 1) = mxF (diamTo n h k) ((maskL n h).map (farM h ((maskL n h).getD k 0))) := by
  unfold diamTo
  rw [take_snoc _ _ hk, List.foldl_append]
  simp [List.getD, hk]
theorem diamTo_bd {n h : Int} (hh : 1 ≤ h ∧ h ≤ 10) : ∀ k, k ≤ (maskL n h).length → 0 ≤ diamTo n h k ∧ diamTo n h k ≤ 1024 := by
  intro k
  induction k with
  | zero => intro _; rw [diamTo_zero]; omega
  | succ k ih =>
    intro hk
    have h1 := ih (by omega)
    rw [diamTo_succ (by omega)]
    obtain ⟨k1, k2, k3⟩ := mxF_ge (diamTo n h k) ((maskL n h).map (farM h ((maskL n h).getD k 0)))
    refine ⟨by omega, ?_⟩
    rcases k3 with h3 | h3
    · omega
    · obtain ⟨y, hy, he⟩ := List.mem_map.1 h3
      have := farM_bd hh (getD_mem' (L := maskL n h) (k := k) (by omega)) hy
      have hl := maskL_len' n h hh
      omega
noncomputable def diamV (n h : Int) : Int := diamTo n h (maskL n h).length
theorem far_some {n h x y c : Int} (hh : 1 ≤ h ∧ h ≤ 10) (hx : x ∈ maskL n h) (h1 : dist (adjM h) x y = some c) : y ∈ maskL n h ∧ c = farM h x y := by
  obtain ⟨k, hk, hd⟩ := dist_some h1
  have hy : y ∈ maskL n h := walk_mem (fun a ha b hb => adjM_mem hh ha hb) hx hd.1
  have h2 := (farM_eq hh hx hy).1
  rw [h1] at h2
  exact ⟨hy, by cases h2; rfl⟩
/-- the greatest, when all entries have come -/
theorem mx_done {n h x b r : Int} (hh : 1 ≤ h ∧ h ≤ 10) (hx : x ∈ maskL n h) (h1 : b ≤ r) (h2 : ∀ y c, dist (adjM h) x y = some c → c ≤ r) (h3 : r = b ∨ ∃ y, dist (adjM h) x y = some r) : r = mxF b ((maskL n h).map (farM h x)) := by
  refine mxF_is h1 (fun v hv => ?_) ?_
  · obtain ⟨y, hy, rfl⟩ := List.mem_map.1 hv
    exact h2 y _ (farM_eq hh hx hy).1
  · rcases h3 with h3 | ⟨y, h3⟩
    · left; exact h3
    · right
      obtain ⟨hy, he⟩ := far_some hh hx h3
      rw [he]
      exact List.mem_map_of_mem hy
end Go.Proofs.Ytecdmnncfloagaa
