/- Plain facts for the laws on distances and on shortest throws. -/
import Derived.Test.YtggffkklfdpmkaaPlainGr
import Derived.Test.YtggffkklfdpmkaaDiam
import Derived.Test.YtggffkklfdpmkaaDistance
namespace Go.Proofs.Ytggffkklfdpmkaa
open Go.RowKit
theorem idx_get' {L : List Int} {m : Int} (h : m ∈ L) : L.getD (idx L m) 0 = m := by
  have hl := idx_lt h
  have e : L.getD (idx L m) 0 = L[idx L m] := by simp [List.getD, hl]
  rw [e]; exact idx_get h
/-- every state but the first has one before it, nearer by one -/
theorem farM_pred {n h a b : Int} (hh : 1 ≤ h ∧ h ≤ 10) (ha : a ∈ maskL n h) (hb : b ∈ maskL n h) (h0 : farM h a b ≠ 0) : ∃ c, c ∈ maskL n h ∧ b ∈ adjM h c ∧ farM h a b = farM h a c + 1 := by
  obtain ⟨_, k, hk, hd⟩ := farM_eq hh ha hb
  cases k with
  | zero => exact absurd hk h0
  | succ k =>
    obtain ⟨c, hw, hc⟩ := hd.1
    have hcm := walk_mem (adj := adjM h) (L := maskL n h) (fun x hx y hy => adjM_mem hh hx hy) ha hw
    obtain ⟨_, l, hl, hd'⟩ := farM_eq hh ha hcm
    have h1 := hd'.2 k hw
    have h2 := farM_arc' hh ha hcm hc
    exact ⟨c, hcm, hc, by omega⟩
theorem diamTo_ge {n h : Int} : ∀ k, k ≤ (maskL n h).length → ∀ i, i < k → ∀ x ∈ maskL n h, farM h ((maskL n h).getD i 0) x ≤ diamTo n h k
  | 0, _, i, hi, _, _ => by omega
  | k + 1, hk, i, hi, x, hx => by
    rw [diamTo_succ (by omega)]
    have hm := mxF_ge (diamTo n h k) ((maskL n h).map (farM h ((maskL n h).getD k 0)))
    rcases Nat.lt_or_ge i k with h1 | h1
    · exact Int.le_trans (diamTo_ge k (by omega) i h1 x hx) hm.1
    · obtain rfl : i = k := by omega
      exact hm.2.1 _ (List.mem_map_of_mem hx)
theorem diam_ge {n h a x : Int} (ha : a ∈ maskL n h) (hx : x ∈ maskL n h) : farM h a x ≤ diamV n h := by
  have hi := idx_lt ha
  have := diamTo_ge _ (Nat.le_refl _) _ hi x hx
  rw [idx_get' ha] at this
  exact this
theorem link_ok {n h a b : Int} (hh : 1 ≤ h ∧ h ≤ 10) (ha : a ∈ maskL n h) (hb : b ∈ maskL n h) : linkC h a h b = 0 := by
  unfold linkC linkB
  rw [valid_mem hh ha, valid_mem hh hb, (mem_maskL.1 ha).2, (mem_maskL.1 hb).2]; simp
theorem distV_ok {n h a b : Int} (hh : 1 ≤ h ∧ h ≤ 10) (ha : a ∈ maskL n h) (hb : b ∈ maskL n h) : distV h a h b = farM h a b := by
  unfold distV; rw [link_ok hh ha hb]; rfl
theorem distX_ok {n h a : Int} (hh : 1 ≤ h ∧ h ≤ 10) (ha : a ∈ maskL n h) : distX h a = (maskL n h).map (farM h a) := by
  unfold distX distL; rw [valid_mem hh ha, cond_true, (mem_maskL.1 ha).2]
theorem idx_ok {n h a : Int} (hh : 1 ≤ h ∧ h ≤ 10) (ha : a ∈ maskL n h) : stateIdx h a = ((idx (maskL n h) a : Nat) : Int) := by
  unfold stateIdx; rw [valid_mem hh ha, cond_true, (mem_maskL.1 ha).2]
/-- the distance at a place of the list -/
noncomputable def farAt (n h a : Int) (i : Nat) : Int := farM h a ((maskL n h).getD i 0)
theorem far_get {n h a : Int} {i : Nat} (hi : i < (maskL n h).length) : ((maskL n h).map (farM h a)).getD i 0 = farAt n h a i := by
  unfold farAt
  simp [List.getD, hi]
theorem farAt_idx {n h a b : Int} (hb : b ∈ maskL n h) : farAt n h a (idx (maskL n h) b) = farM h a b := by
  unfold farAt; rw [idx_get' hb]
theorem farAt_bd {n h a : Int} (hh : 1 ≤ h ∧ h ≤ 10) (ha : a ∈ maskL n h) {i : Nat} (hi : i < (maskL n h).length) : 0 ≤ farAt n h a i ∧ farAt n h a i ≤ diamV n h ∧ farAt n h a i < 1024 ∧ (farAt n h a i = 0 → i = idx (maskL n h) a) := by
  have hm := getM hi
  have h1 := farM_bd hh ha hm
  have h2 := maskL_len n h hh
  refine ⟨h1.1, diam_ge ha hm, by unfold farAt; omega, fun h0 => ?_⟩
  have e := farM_zero hh ha hm h0
  have hg : (maskL n h).getD i 0 = (maskL n h)[i] := by simp [List.getD, hi]
  rw [hg] at e
  rw [e, idx_at (nodup_of_sorted (maskL_sorted n h)) i hi]
theorem farAt_arc {n h a : Int} (hh : 1 ≤ h ∧ h ≤ 10) (ha : a ∈ maskL n h) {x : Int × Int × Int} (hx : x ∈ arcsL (maskL n h) h) {i j : Nat} (hi : x.1 = (i : Int)) (hj : x.2.2 = (j : Int)) : farAt n h a j ≤ farAt n h a i + 1 := by
  obtain ⟨i', j', e1, h1, e2, h2, ht, hc, he⟩ := arc_facts hh hx
  obtain rfl : i = i' := by omega
  obtain rfl : j = j' := by omega
  unfold farAt
  rw [he]
  exact farM_arc' hh ha (getM h1) (List.mem_map.2 ⟨_, (mem_throwsL (by omega)).2 ⟨ht, hc⟩, rfl⟩)
theorem farAt_pred {n h a : Int} (hh : 1 ≤ h ∧ h ≤ 10) (ha : a ∈ maskL n h) {j : Nat} (hj : j < (maskL n h).length) (h0 : farAt n h a j > 0) : ∃ k, ∃ hk : k < (arcsL (maskL n h) h).length, ∃ i : Nat, (arcsL (maskL n h) h)[k].1 = (i : Int) ∧ (arcsL (maskL n h) h)[k].2.2 = (j : Int) ∧ farAt n h a j = farAt n h a i + 1 := by
  obtain ⟨c, hc, hb, hf⟩ := farM_pred hh ha (getM hj) (by unfold farAt at h0; omega)
  obtain ⟨t, ht, he⟩ := List.mem_map.1 hb
  have hci := idx_lt hc
  have hcg := idx_get' hc
  have hmem : (((idx (maskL n h) c : Nat) : Int), t, (j : Int)) ∈ arcsL (maskL n h) h := by
    refine mem_arcsL.2 ⟨idx (maskL n h) c, hci, t, by rw [hcg]; exact ht, ?_⟩
    have hg : (maskL n h).getD j 0 = (maskL n h)[j] := by simp [List.getD, hj]
    unfold idxI
    rw [hcg, he, hg, idx_at (nodup_of_sorted (maskL_sorted n h)) j hj]
  obtain ⟨k, hk, e⟩ := List.getElem_of_mem hmem
  exact ⟨k, hk, idx (maskL n h) c, by rw [e], by rw [e], by unfold farAt; rw [hcg]; exact hf⟩
end Go.Proofs.Ytggffkklfdpmkaa
