/- Plain lemmas: in how many ways the shortest throws can be chosen, modulo 2^64. No program. -/
import Derived.Test.YtggffkklfdpmkaaPlainP
import Derived.RowKit
namespace Go.Proofs.Ytggffkklfdpmkaa
open Go.RowKit (wrap64)
theorem wrap_add (a b : Int) : wrap64 (wrap64 a + wrap64 b) = wrap64 (a + b) := by unfold wrap64; omega
theorem wrap_add' (a b : Int) : wrap64 (wrap64 a + b) = wrap64 (a + b) := by unfold wrap64; omega
theorem wrap_wrap (a : Int) : wrap64 (wrap64 a) = wrap64 a := by unfold wrap64; omega
theorem wrap_zero : wrap64 0 = 0 := by decide
theorem wrap_bd (a : Int) : -9223372036854775808 ≤ wrap64 a ∧ wrap64 a ≤ 9223372036854775807 := by unfold wrap64; omega
theorem wrap_mul (v k : Int) : wrap64 (wrap64 v * k) = wrap64 (v * k) := by
  obtain ⟨q, hq⟩ : ∃ q, wrap64 v = v + 18446744073709551616 * q := ⟨-((v + 9223372036854775808) / 18446744073709551616), by unfold wrap64; omega⟩
  rw [hq, Int.add_mul, Int.mul_assoc]
  generalize v * k = x
  generalize q * k = z
  unfold wrap64
  omega
def sumL (L : List Int) (g : Int → Int) : Int := (L.map g).sum
theorem sumL_nil (g : Int → Int) : sumL [] g = 0 := rfl
theorem sumL_cons (x : Int) (L : List Int) (g : Int → Int) : sumL (x :: L) g = g x + sumL L g := by simp [sumL]
theorem sumL_snoc (L : List Int) (x : Int) (g : Int → Int) : sumL (L ++ [x]) g = sumL L g + g x := by simp [sumL, List.sum_append]
theorem sumL_congr {L : List Int} {f g : Int → Int} (h : ∀ c ∈ L, f c = g c) : sumL L f = sumL L g := by
  unfold sumL
  rw [List.map_congr_left h]
theorem sumL_zero {L : List Int} {f : Int → Int} (h : ∀ c ∈ L, f c = 0) : sumL L f = 0 := by
  induction L with
  | nil => rfl
  | cons x L ih => rw [sumL_cons, h x (List.mem_cons_self ..), ih (fun c hc => h c (List.mem_cons_of_mem _ hc))]; rfl
theorem sumL_add (L : List Int) (f g : Int → Int) : sumL L (fun c => f c + g c) = sumL L f + sumL L g := by
  induction L with
  | nil => rfl
  | cons x L ih => rw [sumL_cons, sumL_cons, sumL_cons, ih]; omega
theorem sumL_one {L : List Int} (hn : L.Nodup) {x : Int} (hx : x ∈ L) (v : Int) : sumL L (fun c => if c = x then v else 0) = v := by
  induction L with
  | nil => cases hx
  | cons y L ih =>
    have hn' := List.nodup_cons.1 hn
    rw [sumL_cons]
    by_cases hy : y = x
    · subst hy
      rw [if_pos rfl, sumL_zero (fun c hc => if_neg (fun (e : c = y) => hn'.1 (e ▸ hc)))]
      omega
    · rw [if_neg hy]
      rcases List.mem_cons.1 hx with h | h
      · exact absurd h.symm hy
      · rw [ih hn'.2 h]; omega
theorem sumL_wrap {L : List Int} {f g : Int → Int} (h : ∀ c ∈ L, wrap64 (f c) = wrap64 (g c)) : wrap64 (sumL L f) = wrap64 (sumL L g) := by
  induction L with
  | nil => rfl
  | cons x L ih =>
    rw [sumL_cons, sumL_cons, ← wrap_add, h x (List.mem_cons_self ..), ih (fun c hc => h c (List.mem_cons_of_mem _ hc)), wrap_add]
/-- where k steps lead to, a way each -/
def ends (adj : Int → List Int) : Nat → Int → List Int
  | 0, a => [a]
  | k + 1, a => (ends adj k a).flatMap adj
def cnt (l : List Int) (y : Int) : Int := ((l.count y : Nat) : Int)
theorem cnt_nil (y : Int) : cnt [] y = 0 := by simp [cnt]
theorem cnt_append (l m : List Int) (y : Int) : cnt (l ++ m) y = cnt l y + cnt m y := by simp [cnt, List.count_append]
theorem cnt_one (x y : Int) : cnt [x] y = if y = x then 1 else 0 := by
  unfold cnt
  by_cases h : y = x
  · subst h; simp
  · rw [if_neg h, List.count_eq_zero_of_not_mem (by simpa using h)]; rfl
theorem cnt_not {l : List Int} {y : Int} (h : y ∉ l) : cnt l y = 0 := by simp [cnt, List.count_eq_zero_of_not_mem h]
def waysN (adj : Int → List Int) (k : Nat) (a y : Int) : Int := cnt (ends adj k a) y
theorem mem_ends {adj : Int → List Int} {a : Int} : ∀ {k : Nat} {y : Int}, y ∈ ends adj k a ↔ Walk adj k a y := by
  intro k
  induction k with
  | zero => intro y; simp [ends, Walk]; exact ⟨fun h => h.symm, fun h => h.symm⟩
  | succ k ih =>
    intro y
    simp only [ends, List.mem_flatMap, Walk]
    constructor
    · rintro ⟨c, h1, h2⟩; exact ⟨c, ih.1 h1, h2⟩
    · rintro ⟨c, h1, h2⟩; exact ⟨c, ih.2 h1, h2⟩
theorem ways_none {adj : Int → List Int} {k : Nat} {a y : Int} (h : ¬ Walk adj k a y) : waysN adj k a y = 0 := cnt_not (fun hm => h (mem_ends.1 hm))
theorem cnt_flat {adj : Int → List Int} {L : List Int} (hn : L.Nodup) (y : Int) : ∀ {xs : List Int}, (∀ x ∈ xs, x ∈ L) → cnt (xs.flatMap adj) y = sumL L (fun c => cnt xs c * cnt (adj c) y) := by
  intro xs
  induction xs with
  | nil =>
    intro _
    rw [sumL_zero (fun c _ => by rw [cnt_nil, Int.zero_mul])]
    exact cnt_nil y
  | cons x xs ih =>
    intro hs
    rw [List.flatMap_cons, cnt_append, ih (fun z hz => hs z (List.mem_cons_of_mem _ hz))]
    have e : sumL L (fun c => cnt (x :: xs) c * cnt (adj c) y) = sumL L (fun c => (if c = x then cnt (adj x) y else 0) + cnt xs c * cnt (adj c) y) := sumL_congr fun c _ => by
      have e1 : cnt (x :: xs) c = (if c = x then 1 else 0) + cnt xs c := by
        have h1 := cnt_append [x] xs c
        rw [cnt_one] at h1
        exact h1
      rw [e1, Int.add_mul]
      by_cases h : c = x
      · subst h; rw [if_pos rfl, if_pos rfl, Int.one_mul]
      · rw [if_neg h, if_neg h, Int.zero_mul]
    rw [e, sumL_add, sumL_one hn (hs x (List.mem_cons_self ..))]
theorem ways_succ {adj : Int → List Int} {L : List Int} (hn : L.Nodup) (hc : ∀ x ∈ L, ∀ y ∈ adj x, y ∈ L) {a : Int} (ha : a ∈ L) (k : Nat) (y : Int) :
    waysN adj (k + 1) a y = sumL L (fun c => waysN adj k a c * cnt (adj c) y) :=
  cnt_flat hn y (fun _ hx => walk_mem hc ha (mem_ends.1 hx))
section
variable {n h a b : Int}
/-- the count at a node after j throws that all lead on -/
noncomputable def cntF (h a b : Int) (j : Nat) (y : Int) : Int := if farM h y b = farM h a b - j then wrap64 (waysN (adjM h) j a y) else 0
theorem cntF_next (hh : 1 ≤ h ∧ h ≤ 10) (ha : a ∈ maskL n h) (hb : b ∈ maskL n h) {j : Nat} {y : Int} (hl : farM h y b = farM h a b - j - 1) :
    wrap64 (sumL (maskL n h) fun c => cntF h a b j c * cnt (adjM h c) y) = cntF h a b (j + 1) y := by
  unfold cntF
  rw [if_pos (by omega), ways_succ (nodup_of_sorted (maskL_sorted n h)) (fun x hx z hz => adjM_mem hh hx hz) ha]
  refine sumL_wrap fun c hc => ?_
  by_cases hf : farM h c b = farM h a b - j
  · rw [if_pos hf, wrap_mul]
  · rw [if_neg hf, Int.zero_mul]
    by_cases hk : y ∈ adjM h c
    · rw [ways_none, Int.zero_mul]
      intro hw
      have h1 := farM_arc hh hc hb hk
      obtain ⟨_, l, hl1, hd⟩ := farM_eq hh hc hb
      obtain ⟨_, l', hl2, hd'⟩ := farM_eq hh ha hb
      have := hd'.2 _ (walk_trans hw hd.1)
      omega
    · rw [cnt_not hk, Int.mul_zero]
theorem cntF_end (h a b : Int) (hD : 0 ≤ farM h a b) : cntF h a b (farM h a b).toNat b = wrap64 (waysN (adjM h) (farM h a b).toNat a b) := by
  unfold cntF
  rw [if_pos]
  rw [farM_self]
  omega
theorem cntF_start (h a b y : Int) : cntF h a b 0 y = if y = a then 1 else 0 := by
  unfold cntF waysN ends
  rw [cnt_one]
  by_cases hy : y = a
  · subst hy
    rw [if_pos (by omega), if_pos rfl]
    decide
  · rw [if_neg hy]
    split <;> decide
/-- what has been added up of a layer, where 'todo' says which nodes are still to come -/
def doneS (h : Int) (L : List Int) (f : Int → Option Int) (todo : Int → Bool) (y : Int) : Int := sumL L fun c => if todo c = true then 0 else (f c).getD 0 * cnt (adjM h c) y
theorem doneS_first (h : Int) (L : List Int) (f : Int → Option Int) (y : Int) : doneS h L f (fun k => (f k).isSome) y = 0 := by
  refine sumL_zero fun c _ => ?_
  cases hf : f c with
  | none => simp
  | some v => simp [hf]
theorem doneS_next {L : List Int} (hn : L.Nodup) {f : Int → Option Int} {todo : Int → Bool} {x v : Int} (hx : x ∈ L) (ht : todo x = true) (hf : f x = some v) (y : Int) :
    doneS h L f (fun z => todo z && !(z == x)) y = doneS h L f todo y + v * cnt (adjM h x) y := by
  unfold doneS
  rw [← sumL_one hn hx (v * cnt (adjM h x) y), ← sumL_add]
  refine sumL_congr fun c _ => ?_
  by_cases hc : c = x
  · subst hc
    simp [ht, hf]
  · simp [hc]
theorem doneS_all {L : List Int} {f : Int → Option Int} {todo : Int → Bool} (ht : ∀ k, todo k = false) (y : Int) : doneS h L f todo y = sumL L fun c => (f c).getD 0 * cnt (adjM h c) y :=
  sumL_congr fun c _ => by rw [ht c]; rfl
/-- the reference's way: by the arcs in order -/
noncomputable def partS (h a : Int) (L : List Int) (d : Nat) (A : List (Int × Int × Int)) (y : Int) : Int :=
  (A.map fun x => if x.2.2 = idxI L y ∧ farM h a (L.getD x.1.toNat 0) = d ∧ farM h a y = d + 1 then waysN (adjM h) d a (L.getD x.1.toNat 0) else 0).sum
theorem partS_snoc (h a : Int) (L : List Int) (d : Nat) (A : List (Int × Int × Int)) (x : Int × Int × Int) (y : Int) :
    partS h a L d (A ++ [x]) y = partS h a L d A y + if x.2.2 = idxI L y ∧ farM h a (L.getD x.1.toNat 0) = d ∧ farM h a y = d + 1 then waysN (adjM h) d a (L.getD x.1.toNat 0) else 0 := by
  simp [partS, List.sum_append]
theorem sum_throws {L : List Int} {y : Int} (hy : y ∈ L) (x v : Int) (T : List Int) (hT : ∀ t ∈ T, nextM x t ∈ L) (p : Prop) [Decidable p] (hp : p) :
    ((T.map fun t => if ((idx L (nextM x t) : Nat) : Int) = idxI L y ∧ p then v else 0).sum) = v * cnt (T.map (nextM x)) y := by
  induction T with
  | nil => simp [cnt]
  | cons t T ih =>
    have h1 := cnt_append [nextM x t] (T.map (nextM x)) y
    rw [cnt_one] at h1
    rw [List.map_cons, List.sum_cons, ih (fun s hs => hT s (List.mem_cons_of_mem _ hs)), List.map_cons]
    have h2 : nextM x t :: T.map (nextM x) = [nextM x t] ++ T.map (nextM x) := rfl
    rw [h2, h1]
    by_cases he : y = nextM x t
    · subst he
      rw [if_pos ⟨rfl, hp⟩, if_pos rfl, Int.mul_add, Int.mul_one]
    · rw [if_neg he, if_neg, Int.zero_add, Int.zero_add]
      rintro ⟨h3, _⟩
      exact he (idxI_inj (hT t (List.mem_cons_self ..)) hy h3).symm
theorem partS_arcs (hh : 1 ≤ h ∧ h ≤ 10) {d : Nat} {y : Int} (hy : y ∈ maskL n h) (hd : farM h a y = d + 1) :
    ∀ k, k ≤ (maskL n h).length → partS h a (maskL n h) d (arcsTo (maskL n h) h k) y = sumL ((maskL n h).take k) fun c => if farM h a c = d then waysN (adjM h) d a c * cnt (adjM h c) y else 0 := by
  intro k
  induction k with
  | zero => intro _; simp [partS, arcsTo, sumL]
  | succ k ih =>
    intro hk
    have hk' : k < (maskL n h).length := by omega
    rw [arcsTo_succ, take_snoc _ _ hk', sumL_snoc, ← ih (by omega)]
    have e : (maskL n h).getD k 0 = (maskL n h)[k] := by simp [List.getD, hk']
    have hm : (maskL n h)[k] ∈ maskL n h := List.getElem_mem hk'
    unfold partS
    rw [List.map_append, List.sum_append]
    congr 1
    unfold arcsAt
    rw [List.map_map, e]
    by_cases hf : farM h a (maskL n h)[k] = d
    · rw [if_pos hf]
      have hs := sum_throws hy (maskL n h)[k] (waysN (adjM h) d a (maskL n h)[k]) (throwsL h (maskL n h)[k]) (fun t ht => adjM_mem hh hm (List.mem_map_of_mem ht)) (farM h a (maskL n h)[k] = d ∧ farM h a y = d + 1) ⟨hf, hd⟩
      unfold adjM at hs ⊢
      rw [← hs]
      congr 1
      refine List.map_congr_left fun t _ => ?_
      simp only [Function.comp, Int.toNat_natCast, e]
    · rw [if_neg hf]
      have : ∀ (T : List Int), (T.map ((fun x : Int × Int × Int => if x.2.2 = idxI (maskL n h) y ∧ farM h a ((maskL n h).getD x.1.toNat 0) = d ∧ farM h a y = d + 1 then waysN (adjM h) d a ((maskL n h).getD x.1.toNat 0) else 0) ∘ fun t => ((k : Int), t, ((idx (maskL n h) (nextM (maskL n h)[k] t) : Nat) : Int)))).sum = 0 := by
        intro T
        induction T with
        | nil => rfl
        | cons t T ih =>
          rw [List.map_cons, List.sum_cons, ih]
          simp only [Function.comp, Int.toNat_natCast, e]
          rw [if_neg (fun hx => hf hx.2.1)]
          rfl
      exact this _
theorem partS_all (hh : 1 ≤ h ∧ h ≤ 10) (ha : a ∈ maskL n h) {d : Nat} {y : Int} (hy : y ∈ maskL n h) (hd : farM h a y = d + 1) :
    partS h a (maskL n h) d (arcsL (maskL n h) h) y = waysN (adjM h) (d + 1) a y := by
  unfold arcsL
  rw [partS_arcs hh hy hd _ (Nat.le_refl _), List.take_length, ways_succ (nodup_of_sorted (maskL_sorted n h)) (fun x hx z hz => adjM_mem hh hx hz) ha]
  refine sumL_congr fun c hc => ?_
  by_cases hf : farM h a c = d
  · rw [if_pos hf]
  · rw [if_neg hf]
    symm
    by_cases hk : y ∈ adjM h c
    · have h1 := farM_arc' hh ha hc hk
      rw [ways_none, Int.zero_mul]
      intro hw
      obtain ⟨_, l, hl, hdd⟩ := farM_eq hh ha hc
      have := hdd.2 _ hw
      omega
    · rw [cnt_not hk, Int.mul_zero]
theorem partS_far {d : Nat} {A : List (Int × Int × Int)} {L : List Int} {y : Int} (hd : farM h a y ≠ d + 1) : partS h a L d A y = 0 := by
  unfold partS
  induction A with
  | nil => rfl
  | cons x A ih =>
    rw [List.map_cons, List.sum_cons, ih, if_neg (fun hx => hd hx.2.2)]
    rfl
/-- the slice of ways, when d layers are done and the arcs A of the next have been looked at -/
noncomputable def waysV (h a : Int) (L : List Int) (d : Nat) (A : List (Int × Int × Int)) (y : Int) : Int :=
  if farM h a y ≤ d then wrap64 (waysN (adjM h) (farM h a y).toNat a y) else wrap64 (partS h a L d A y)
theorem waysV_layer (hh : 1 ≤ h ∧ h ≤ 10) (ha : a ∈ maskL n h) (d : Nat) {y : Int} (hy : y ∈ maskL n h) : waysV h a (maskL n h) d (arcsL (maskL n h) h) y = waysV h a (maskL n h) (d + 1) [] y := by
  unfold waysV
  by_cases h1 : farM h a y ≤ d
  · rw [if_pos h1, if_pos (by omega)]
  · rw [if_neg h1]
    by_cases h2 : farM h a y = d + 1
    · rw [if_pos (by omega), partS_all hh ha hy h2, h2]
      rfl
    · rw [partS_far h2, if_neg (by omega)]
      rfl
theorem waysV_start (hh : 1 ≤ h ∧ h ≤ 10) (ha : a ∈ maskL n h) {y : Int} (hy : y ∈ maskL n h) : waysV h a (maskL n h) 0 [] y = if y = a then 1 else 0 := by
  unfold waysV
  obtain ⟨_, k, hk, hd⟩ := farM_eq hh ha hy
  by_cases hya : y = a
  · subst hya
    rw [farM_self, if_pos (by omega), if_pos rfl]
    show wrap64 (cnt [y] y) = 1
    rw [cnt_one, if_pos rfl]
    decide
  · rw [if_neg hya, if_neg]
    · rfl
    · intro h0
      exact hya (farM_zero hh ha hy (by omega)).symm
end
end Go.Proofs.Ytggffkklfdpmkaa
