/- Plain facts for the law on graphs. -/
import Derived.Test.YtggffkklfdpmkaaPlainP
import Derived.Test.YtggffkklfdpmkaaPlainS2
import Derived.Test.YtggffkklfdpmkaaFarP
import Derived.Test.YtggffkklfdpmkaaArcsOf
import Derived.Test.YtggffkklfdpmkaaIndex
namespace Go.Proofs.Ytggffkklfdpmkaa
open Go.RowKit
theorem graph_ok {n h : Int} (hh : 1 ≤ h ∧ h ≤ 10) (hn : 0 ≤ n ∧ n ≤ h) : graphC n h = 0 := by
  unfold graphC
  rw [inB_iff.2 hh, inB_iff.2 hn]; rfl
theorem mask_pos {n h : Int} (hh : 1 ≤ h ∧ h ≤ 10) (hn : 0 ≤ n ∧ n ≤ h) : 1 ≤ (maskL n h).length := List.length_pos_of_mem (ground_mem hh hn)
theorem getM {n h : Int} {i : Nat} (hi : i < (maskL n h).length) : (maskL n h).getD i 0 ∈ maskL n h := by
  have e : (maskL n h).getD i 0 = (maskL n h)[i] := by simp [List.getD, hi]
  rw [e]; exact List.getElem_mem hi
theorem valid_mem {n h m : Int} (hh : 1 ≤ h ∧ h ≤ 10) (hm : m ∈ maskL n h) : validB h m = true := by
  have h1 := (mem_maskL.1 hm).1
  unfold validB
  rw [inB_iff.2 hh, inB_iff.2 (by omega)]; rfl
theorem idx_mem {n h : Int} (hh : 1 ≤ h ∧ h ≤ 10) {i : Nat} (hi : i < (maskL n h).length) : stateIdx h ((maskL n h).getD i 0) = (i : Int) := by
  have hm := getM hi
  unfold stateIdx
  rw [valid_mem hh hm, cond_true, (mem_maskL.1 hm).2]
  have e : (maskL n h).getD i 0 = (maskL n h)[i] := by simp [List.getD, hi]
  rw [e, idx_at (nodup_of_sorted (maskL_sorted n h)) i hi]
theorem validC_mem {n h m : Int} (hh : 1 ≤ h ∧ h ≤ 10) (hm : m ∈ maskL n h) : validC h m = 0 := by
  unfold validC; rw [valid_mem hh hm]; rfl
theorem into_mem {n h : Int} (hh : 1 ≤ h ∧ h ≤ 10) {i : Nat} (hi : i < (maskL n h).length) : intoX h ((maskL n h).getD i 0) = (arcsL (maskL n h) h).filter (fun a => a.2.2 == (i : Int)) := by
  have hm := getM hi
  unfold intoX
  rw [valid_mem hh hm, cond_true, (mem_maskL.1 hm).2, idx_mem hh hi]
theorem throws_pos {n h m : Int} (hh : 1 ≤ h ∧ h ≤ 10) (hm : m ∈ maskL n h) : 1 ≤ (throwsL h m).length := by
  have h1 := (mem_maskL.1 hm).1
  cases hb : bitB m 0
  · refine List.length_pos_of_mem (a := 0) ((mem_throwsL (by omega)).2 ⟨by omega, ?_⟩)
    unfold canB; rw [hb]; rfl
  · refine List.length_pos_of_mem (a := h) ((mem_throwsL (by omega)).2 ⟨by omega, ?_⟩)
    have hh0 : (h == 0) = false := by simpa using (by omega : h ≠ 0)
    have hbh : bitB m h = false := by
      have hhn : ((h.toNat : Nat) : Int) = h := by omega
      rw [← hhn]
      exact bit_high h1.1 h1.2 (Nat.le_refl _)
    unfold canB; rw [hb, hh0, inB_iff.2 (by omega), hbh]; rfl
theorem arcsTo_ge {n h : Int} (hh : 1 ≤ h ∧ h ≤ 10) : ∀ k, k ≤ (maskL n h).length → k ≤ (arcsTo (maskL n h) h k).length
  | 0, _ => Nat.zero_le _
  | k + 1, hk => by
    rw [arcsTo_succ, List.length_append]
    have h1 := arcsTo_ge (n := n) hh k (by omega)
    have h2 := throws_pos hh (getM (n := n) (h := h) (i := k) (by omega) : (maskL n h).getD k 0 ∈ maskL n h)
    unfold arcsAt
    rw [List.length_map]
    omega
theorem arcs_ge {n h : Int} (hh : 1 ≤ h ∧ h ≤ 10) : (maskL n h).length ≤ (arcsL (maskL n h) h).length := arcsTo_ge hh _ (Nat.le_refl _)
/-- what an arc says -/
theorem arc_facts {n h : Int} (hh : 1 ≤ h ∧ h ≤ 10) {a : Int × Int × Int} (ha : a ∈ arcsL (maskL n h) h) :
    ∃ i j : Nat, a.1 = (i : Int) ∧ i < (maskL n h).length ∧ a.2.2 = (j : Int) ∧ j < (maskL n h).length ∧ (0 ≤ a.2.1 ∧ a.2.1 ≤ h) ∧ canB h ((maskL n h).getD i 0) a.2.1 = true ∧ (maskL n h).getD j 0 = nextM ((maskL n h).getD i 0) a.2.1 := by
  obtain ⟨i, hi, t, ht, rfl⟩ := mem_arcsL.1 ha
  have h1 := (mem_throwsL (by omega)).1 ht
  have hm := next_mem hh (getM hi) h1.2
  refine ⟨i, idx (maskL n h) (nextM ((maskL n h).getD i 0) t), rfl, hi, rfl, idx_lt hm, h1.1, h1.2, ?_⟩
  have hl := idx_lt hm
  have e := idx_get hm
  rw [List.getD_eq_getElem?_getD, List.getElem?_eq_getElem hl, e]; rfl
section
variable {α : Type} {p : α → Bool} {A : List α}
theorem filt_no {k : Nat} (hk : k < A.length) (h : p A[k] = false) : ((A.take (k + 1)).filter p).length = ((A.take k).filter p).length := by
  rw [List.take_add_one, List.getElem?_eq_getElem hk, List.filter_append]
  simp [h]
theorem filt_yes {k : Nat} (hk : k < A.length) (h : p A[k] = true) : ((A.take (k + 1)).filter p).length = ((A.take k).filter p).length + 1 ∧ ∃ hc : ((A.take k).filter p).length < (A.filter p).length, (A.filter p)[((A.take k).filter p).length] = A[k] := by
  have e : A = A.take k ++ A[k] :: A.drop (k + 1) := by
    rw [List.getElem_cons_drop, List.take_append_drop]
  have e2 : A.filter p = (A.take k).filter p ++ A[k] :: (A.drop (k + 1)).filter p := by
    conv => lhs; rw [e]
    rw [List.filter_append, List.filter_cons, h]; rfl
  refine ⟨?_, ?_⟩
  · rw [List.take_add_one, List.getElem?_eq_getElem hk, List.filter_append]
    simp [h]
  · have hl : ((A.take k).filter p).length < (A.filter p).length := by rw [e2]; simp
    refine ⟨hl, ?_⟩
    have h1 : (A.filter p)[((A.take k).filter p).length]? = some A[k] := by rw [e2]; simp
    rw [List.getElem?_eq_getElem hl] at h1
    exact Option.some.inj h1
end
end Go.Proofs.Ytggffkklfdpmkaa
