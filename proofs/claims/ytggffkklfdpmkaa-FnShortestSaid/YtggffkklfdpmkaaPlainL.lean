/- Plain lemmas: the layers of counts, as a search by maps makes them. No program. -/
import Derived.Test.YtggffkklfdpmkaaPlainN
namespace Go.Proofs.Ytggffkklfdpmkaa
open Go.RowKit (wrap64)
/-- the counts of the layer j -/
def Lay (h a b : Int) (L : List Int) (j : Nat) (f : Int → Option Int) : Prop :=
  (∀ y, (f y).isSome = true → y ∈ L ∧ farM h y b = farM h a b - j) ∧ ∀ y ∈ L, (f y).getD 0 = cntF h a b j y
/-- a layer under way: S what has been added up -/
def Acc (h b e : Int) (L : List Int) (g : Int → Option Int) (S : Int → Int) : Prop :=
  (∀ y, (g y).isSome = true → y ∈ L ∧ farM h y b = e) ∧ ∀ y ∈ L, (g y).getD 0 = if farM h y b = e then wrap64 (S y) else 0
section
variable {n h a b e : Int} {L : List Int} {f g : Int → Option Int} {S : Int → Int}
theorem Acc.congr {S' : Int → Int} (hA : Acc h b e L g S) (hS : ∀ y ∈ L, S y = S' y) : Acc h b e L g S' :=
  ⟨hA.1, fun y hy => by rw [hA.2 y hy, hS y hy]⟩
theorem Acc.start (h b e : Int) (L : List Int) (f : Int → Option Int) : Acc h b e L (fun _ => none) (doneS h L f (fun k => (f k).isSome)) :=
  ⟨fun y hy => by simp at hy, fun y _ => by
    rw [doneS_first, wrap_zero]
    simp⟩
theorem Acc.add {x c : Int} (hA : Acc h b e L g S) (hx : x ∈ L) (hf : farM h x b = e) : Acc h b e L (fput' g x (wrap64 ((g x).getD 0 + c))) (fun y => S y + if y = x then c else 0) := by
  refine ⟨fun y hy => ?_, fun y hy => ?_⟩
  · unfold fput' at hy
    by_cases hyx : y = x
    · subst hyx; exact ⟨hx, hf⟩
    · rw [if_neg hyx] at hy; exact hA.1 y hy
  · unfold fput'
    by_cases hyx : y = x
    · subst hyx
      rw [if_pos rfl, if_pos hf]
      show wrap64 ((g y).getD 0 + c) = wrap64 (S y + if y = y then c else 0)
      rw [if_pos rfl, hA.2 y hy, if_pos hf, wrap_add']
    · rw [if_neg hyx, hA.2 y hy]
      show _ = if farM h y b = e then wrap64 (S y + if y = x then c else 0) else 0
      rw [if_neg hyx, Int.add_zero]
theorem Acc.skip {x c : Int} (hA : Acc h b e L g S) (hf : farM h x b ≠ e) : Acc h b e L g (fun y => S y + if y = x then c else 0) := by
  refine ⟨hA.1, fun y hy => ?_⟩
  rw [hA.2 y hy]
  show _ = if farM h y b = e then wrap64 (S y + if y = x then c else 0) else 0
  by_cases hyx : y = x
  · subst hyx
    rw [if_neg hf, if_neg hf]
  · rw [if_neg hyx, Int.add_zero]
theorem Lay.start (ha : a ∈ maskL n h) : Lay h a b (maskL n h) 0 (fput' (fun _ => none) a 1) := by
  refine ⟨fun y hy => ?_, fun y _ => ?_⟩
  · unfold fput' at hy
    by_cases hya : y = a
    · subst hya; exact ⟨ha, by omega⟩
    · rw [if_neg hya] at hy; simp at hy
  · rw [cntF_start]
    unfold fput'
    by_cases hya : y = a
    · rw [if_pos hya, if_pos hya]; rfl
    · rw [if_neg hya, if_neg hya]; rfl
theorem Lay.next (hh : 1 ≤ h ∧ h ≤ 10) (ha : a ∈ maskL n h) (hb : b ∈ maskL n h) {j : Nat} {todo : Int → Bool} (hL : Lay h a b (maskL n h) j f) (ht : ∀ k, todo k = false)
    (hA : Acc h b (farM h a b - j - 1) (maskL n h) g (doneS h (maskL n h) f todo)) : Lay h a b (maskL n h) (j + 1) g := by
  refine ⟨fun y hy => ?_, fun y hy => ?_⟩
  · have := hA.1 y hy
    exact ⟨this.1, by omega⟩
  · rw [hA.2 y hy]
    by_cases hf : farM h y b = farM h a b - j - 1
    · rw [if_pos hf, doneS_all ht, ← cntF_next hh ha hb hf]
      congr 1
      exact sumL_congr fun c hc => by rw [hL.2 c hc]
    · rw [if_neg hf]
      unfold cntF
      rw [if_neg (by omega)]
theorem Lay.end (hb : b ∈ maskL n h) (hD : 0 ≤ farM h a b) (hL : Lay h a b (maskL n h) (farM h a b).toNat f) : (f b).getD 0 = wrap64 (waysN (adjM h) (farM h a b).toNat a b) := by
  rw [hL.2 b hb, cntF_end h a b hD]
theorem cnt_take {T : List Int} {x : Int} {i : Nat} (hi : i < T.length) (y : Int) : cnt ((T.take (i + 1)).map (nextM x)) y = cnt ((T.take i).map (nextM x)) y + if y = nextM x (T.getD i 0) then 1 else 0 := by
  rw [take_snoc _ _ hi, List.map_append, cnt_append]
  have e : T.getD i 0 = T[i] := by simp [List.getD, hi]
  rw [e]
  congr 1
  exact cnt_one _ _
/-- the sum while the throws of x are looked at -/
def inS (h : Int) (L : List Int) (f : Int → Option Int) (todo : Int → Bool) (x c : Int) (T : List Int) (i : Nat) (y : Int) : Int := doneS h L f todo y + c * cnt ((T.take i).map (nextM x)) y
theorem inS_zero (h : Int) (L : List Int) (f : Int → Option Int) (todo : Int → Bool) (x c : Int) (T : List Int) (y : Int) : inS h L f todo x c T 0 y = doneS h L f todo y := by
  unfold inS
  rw [List.take_zero]
  simp [cnt]
theorem inS_succ {todo : Int → Bool} {x c : Int} {T : List Int} {i : Nat} (hi : i < T.length) (y : Int) : inS h L f todo x c T (i + 1) y = inS h L f todo x c T i y + if y = nextM x (T.getD i 0) then c else 0 := by
  unfold inS
  rw [cnt_take hi, Int.mul_add, Int.add_assoc]
  congr 2
  by_cases hy : y = nextM x (T.getD i 0)
  · rw [if_pos hy, if_pos hy, Int.mul_one]
  · rw [if_neg hy, if_neg hy, Int.mul_zero]
theorem inS_all (hn : L.Nodup) {todo : Int → Bool} {x c : Int} (hx : x ∈ L) (ht : todo x = true) (hf : f x = some c) {i : Nat} (hi : ¬ i < (throwsL h x).length) (y : Int) :
    inS h L f todo x c (throwsL h x) i y = doneS h L f (fun z => todo z && !(z == x)) y := by
  unfold inS
  rw [doneS_next hn hx ht hf, List.take_of_length_le (by omega)]
  rfl
end
end Go.Proofs.Ytggffkklfdpmkaa
