/- Plain facts for the law on shortest throws: the number of shortest ways is small, the picked throw is the least. -/
import Derived.Test.YtggffkklfdpmkaaPlainFa
import Derived.Test.YtggffkklfdpmkaaCount
import Derived.Test.YtggffkklfdpmkaaShortC
namespace Go.Proofs.Ytggffkklfdpmkaa
open Go.RowKit
theorem sumL_le {L : List Int} {f g : Int → Int} (h : ∀ c ∈ L, f c ≤ g c) : sumL L f ≤ sumL L g := by
  induction L with
  | nil => exact Int.le_refl _
  | cons x L ih =>
    rw [sumL_cons, sumL_cons]
    have h1 := h x (List.mem_cons_self ..)
    have h2 := ih (fun c hc => h c (List.mem_cons_of_mem _ hc))
    omega
theorem sumL_nonneg {L : List Int} {f : Int → Int} (h : ∀ c ∈ L, 0 ≤ f c) : 0 ≤ sumL L f := by
  have := sumL_le (f := fun _ => 0) h
  rw [sumL_zero (fun _ _ => rfl)] at this
  exact this
theorem sumL_ge {L : List Int} {f : Int → Int} (h : ∀ c ∈ L, 0 ≤ f c) {x : Int} (hx : x ∈ L) : f x ≤ sumL L f := by
  induction L with
  | nil => cases hx
  | cons y L ih =>
    rw [sumL_cons]
    have h1 := h y (List.mem_cons_self ..)
    have h2 : ∀ c ∈ L, 0 ≤ f c := fun c hc => h c (List.mem_cons_of_mem _ hc)
    rcases List.mem_cons.1 hx with e | e
    · subst e; have := sumL_nonneg h2; omega
    · have := ih h2 e; omega
theorem sumL_const {L : List Int} {p : Int → Bool} {v : Int} : sumL L (fun c => if p c = true then v else 0) = ((L.filter p).length : Int) * v := by
  induction L with
  | nil => simp [sumL]
  | cons x L ih =>
    rw [sumL_cons, ih]
    cases hp : p x
    · simp [hp]
    · simp only [List.filter_cons, hp, if_true, List.length_cons]
      rw [show ((((L.filter p).length + 1 : Nat)) : Int) = ((L.filter p).length : Int) + 1 by omega, Int.add_mul, Int.one_mul]
      omega
theorem adj_once_all : ((List.range 7).all fun h => (List.range (2 ^ (h + 1))).all fun m => decide ((adjM ((h : Int) + 1) (m : Int)).Nodup)) = true := by decide +kernel
theorem adj_once {h m : Int} (hh : 1 ≤ h ∧ h ≤ 7) (hm : 0 ≤ m ∧ m < 2 ^ h.toNat) : (adjM h m).Nodup := by
  have h1 := List.all_eq_true.1 adj_once_all (h.toNat - 1) (by simp; omega)
  have e : h.toNat - 1 + 1 = h.toNat := by omega
  rw [e] at h1
  have hmt : m.toNat < 2 ^ h.toNat := by
    have : ((m.toNat : Nat) : Int) < ((2 ^ h.toNat : Nat) : Int) := by
      rw [Int.toNat_of_nonneg hm.1]; simpa using hm.2
    exact Int.ofNat_lt.1 this
  have h2 := List.all_eq_true.1 h1 m.toNat (by simpa using hmt)
  have e1 : ((h.toNat - 1 : Nat) : Int) + 1 = h := by omega
  have e2 : ((m.toNat : Nat) : Int) = m := by omega
  rw [e1, e2] at h2
  simpa using h2
theorem mask_few_all : ((List.range 8).all fun n => (List.range 7).all fun h => decide ((maskL (n : Int) ((h : Int) + 1)).length ≤ 35)) = true := by decide +kernel
theorem mask_few {n h : Int} (hh : 1 ≤ h ∧ h ≤ 7) (hn : 0 ≤ n ∧ n ≤ h) : (maskL n h).length ≤ 35 := by
  have h1 := List.all_eq_true.1 mask_few_all n.toNat (by simp; omega)
  have h2 := List.all_eq_true.1 h1 (h.toNat - 1) (by simp; omega)
  have e1 : ((h.toNat - 1 : Nat) : Int) + 1 = h := by omega
  have e2 : ((n.toNat : Nat) : Int) = n := by omega
  rw [e1, e2] at h2
  simpa using h2
theorem cnt_le_one {l : List Int} (hn : l.Nodup) (y : Int) : 0 ≤ cnt l y ∧ cnt l y ≤ 1 := by
  unfold cnt
  have := List.nodup_iff_count.1 hn y
  omega
section
variable {n h a b : Int}
theorem ways_pos (k : Nat) (y : Int) : 0 ≤ waysN (adjM h) k a y := by unfold waysN cnt; omega
/-- the ways of length k that end at distance k -/
noncomputable def layS (n h a : Int) (k : Nat) : Int := sumL (maskL n h) fun c => if decide (farM h a c = (k : Int)) = true then waysN (adjM h) k a c else 0
theorem layS_nonneg (k : Nat) : 0 ≤ layS n h a k := sumL_nonneg fun c _ => by
  split
  · exact ways_pos _ _
  · omega
theorem lay_next (hh : 1 ≤ h ∧ h ≤ 7) (ha : a ∈ maskL n h) {k : Nat} {y : Int} (hd : farM h a y = (k + 1 : Nat)) : waysN (adjM h) (k + 1) a y ≤ layS n h a k := by
  have hh' : 1 ≤ h ∧ h ≤ 10 := by omega
  rw [ways_succ (nodup_of_sorted (maskL_sorted n h)) (fun x hx z hz => adjM_mem hh' hx hz) ha]
  refine sumL_le fun c hc => ?_
  have hw := ways_pos (h := h) (a := a) k c
  have h1 := cnt_le_one (adj_once hh (mem_maskL.1 hc).1) y
  by_cases hz : cnt (adjM h c) y = 0
  · rw [hz, Int.mul_zero]
    split
    · exact hw
    · omega
  · have e1 : cnt (adjM h c) y = 1 := by omega
    rw [e1, Int.mul_one]
    by_cases hw0 : waysN (adjM h) k a c = 0
    · rw [hw0]; split <;> omega
    · have hyc : y ∈ adjM h c := Classical.byContradiction fun hno => hz (cnt_not hno)
      have hwk : Walk (adjM h) k a c := Classical.byContradiction fun hno => hw0 (ways_none hno)
      obtain ⟨_, l, hl, hdl⟩ := farM_eq hh' ha hc
      have h2 := hdl.2 k hwk
      have h3 := farM_arc' hh' ha hc hyc
      have h4 : farM h a c = (k : Int) := by omega
      rw [if_pos (by simpa using h4)]
      exact Int.le_refl _
noncomputable def layN (n h a : Int) (k : Nat) : Nat := ((maskL n h).filter fun c => decide (farM h a c ≤ (k : Int))).length
theorem filter_split {L : List Int} {f : Int → Int} {k : Nat} : (L.filter fun c => decide (f c ≤ ((k + 1 : Nat) : Int))).length = (L.filter fun c => decide (f c ≤ (k : Int))).length + (L.filter fun c => decide (f c = ((k + 1 : Nat) : Int))).length := by
  induction L with
  | nil => rfl
  | cons x L ih =>
    by_cases h1 : f x ≤ (k : Int)
    · have h2 : f x ≤ ((k + 1 : Nat) : Int) := by omega
      have h3 : ¬ f x = ((k + 1 : Nat) : Int) := by omega
      simp only [List.filter_cons, decide_eq_true h1, decide_eq_true h2, decide_eq_false h3, if_true, List.length_cons, Bool.false_eq_true, if_false]
      omega
    · by_cases h3 : f x = ((k + 1 : Nat) : Int)
      · have h2 : f x ≤ ((k + 1 : Nat) : Int) := by omega
        simp only [List.filter_cons, decide_eq_false h1, decide_eq_true h2, decide_eq_true h3, if_true, List.length_cons, Bool.false_eq_true, if_false]
        omega
      · have h2 : ¬ f x ≤ ((k + 1 : Nat) : Int) := by omega
        simp only [List.filter_cons, decide_eq_false h1, decide_eq_false h2, decide_eq_false h3, Bool.false_eq_true, if_false]
        exact ih
theorem lay_bd (hh : 1 ≤ h ∧ h ≤ 7) (ha : a ∈ maskL n h) : ∀ k, layS n h a k ≤ ((2 ^ layN n h a k : Nat) : Int)
  | 0 => by
    have h1 : layS n h a 0 ≤ sumL (maskL n h) fun c => if decide (farM h a c = ((0 : Nat) : Int)) = true then 1 else 0 := sumL_le fun c hc => by
      split
      · have := cnt_le_one (l := [a]) (by simp) c
        exact this.2
      · omega
    rw [sumL_const, Int.mul_one] at h1
    have h2 : ((maskL n h).filter fun c => decide (farM h a c = ((0 : Nat) : Int))).length ≤ layN n h a 0 := by
      unfold layN
      rw [← List.countP_eq_length_filter, ← List.countP_eq_length_filter]
      refine List.countP_mono_left fun c _ hc => ?_
      simp only [decide_eq_true_eq] at hc ⊢
      omega
    have h3 := Nat.lt_two_pow_self (n := layN n h a 0)
    omega
  | k + 1 => by
    have ih := lay_bd hh ha k
    have h1 : layS n h a (k + 1) ≤ sumL (maskL n h) fun c => if decide (farM h a c = ((k + 1 : Nat) : Int)) = true then layS n h a k else 0 := sumL_le fun c hc => by
      split
      · rename_i hd
        exact lay_next hh ha (by simpa using hd)
      · omega
    rw [sumL_const] at h1
    have h2 : layN n h a (k + 1) = layN n h a k + ((maskL n h).filter fun c => decide (farM h a c = ((k + 1 : Nat) : Int))).length := filter_split
    rw [h2]
    generalize ((maskL n h).filter fun c => decide (farM h a c = ((k + 1 : Nat) : Int))).length = m at *
    have h3 := Nat.lt_two_pow_self (n := m)
    have h4 : (m : Int) * layS n h a k ≤ (m : Int) * ((2 ^ layN n h a k : Nat) : Int) := Int.mul_le_mul_of_nonneg_left ih (by omega)
    have h5 : (m : Int) * ((2 ^ layN n h a k : Nat) : Int) ≤ ((2 ^ (layN n h a k + m) : Nat) : Int) := by
      have : m * 2 ^ layN n h a k ≤ 2 ^ m * 2 ^ layN n h a k := Nat.mul_le_mul_right _ (by omega)
      rw [Nat.pow_add, Nat.mul_comm (2 ^ layN n h a k)]
      exact_mod_cast this
    omega
theorem ways_bd (hh : 1 ≤ h ∧ h ≤ 7) (hn : 0 ≤ n ∧ n ≤ h) (ha : a ∈ maskL n h) (hb : b ∈ maskL n h) : 1 ≤ waysN (adjM h) (farM h a b).toNat a b ∧ waysN (adjM h) (farM h a b).toNat a b < 9223372036854775808 := by
  have hh' : 1 ≤ h ∧ h ≤ 10 := by omega
  obtain ⟨_, k, hk, hd⟩ := farM_eq hh' ha hb
  have e : (farM h a b).toNat = k := by omega
  rw [e]
  have hm := mem_ends.2 hd.1
  have h1 : 1 ≤ waysN (adjM h) k a b := by
    unfold waysN cnt
    have := List.count_pos_iff.2 hm
    omega
  have h2 : waysN (adjM h) k a b ≤ layS n h a k := by
    have := sumL_ge (L := maskL n h) (f := fun c => if decide (farM h a c = (k : Int)) = true then waysN (adjM h) k a c else 0) (fun c _ => by split; exact ways_pos _ _; omega) hb
    rw [if_pos (by simpa using hk)] at this
    exact this
  have h3 := lay_bd hh ha (n := n) k
  have h4 : layN n h a k ≤ 35 := Nat.le_trans (List.length_filter_le _ _) (mask_few hh hn)
  have h5 : 2 ^ layN n h a k ≤ 2 ^ 35 := Nat.pow_le_pow_right (by omega) h4
  have h6 : (2 : Nat) ^ 35 < 9223372036854775808 := by decide
  exact ⟨h1, by omega⟩
theorem count_ok (hh : 1 ≤ h ∧ h ≤ 7) (hn : 0 ≤ n ∧ n ≤ h) (ha : a ∈ maskL n h) (hb : b ∈ maskL n h) : 1 ≤ countC h a h b := by
  have hw := ways_bd hh hn ha hb
  unfold countC
  rw [link_ok (by omega) ha hb, beq_self_eq_true, cond_true]
  unfold wrap64
  omega
theorem find_least {p : Int → Bool} : ∀ {T : List Int}, T.Pairwise (· < ·) → ∀ {s : Int}, T.find? p = some s → ∀ t ∈ T, t < s → p t = false
  | [], _, _, hf, _, _, _ => by cases hf
  | x :: T, hs, s, hf, t, ht, hlt => by
    obtain ⟨h1, h2⟩ := List.pairwise_cons.1 hs
    cases hp : p x with
    | true =>
      rw [List.find?_cons_of_pos hp] at hf
      cases hf
      rcases List.mem_cons.1 ht with e | e
      · omega
      · have := h1 t e; omega
    | false =>
      rw [List.find?_cons_of_neg (by simp [hp])] at hf
      rcases List.mem_cons.1 ht with e | e
      · rw [e]; exact hp
      · exact find_least h2 hf t e hlt
theorem throws_sorted (h m : Int) : (throwsL h m).Pairwise (· < ·) := by
  unfold throwsL throwsTo
  refine List.Pairwise.filter _ (List.pairwise_map.2 (List.pairwise_lt_range.imp ?_))
  intro a b h; exact Int.ofNat_lt.2 h
theorem pick_least (hh : 1 ≤ h ∧ h ≤ 10) (ha : a ∈ maskL n h) (hb : b ∈ maskL n h) (hne : a ≠ b) {t : Int} (ht : 0 ≤ t) (hlt : t < pickT h b a) (hc : canB h a t = true) : farM h a b ≤ farM h (nextM a t) b := by
  obtain ⟨t0, ht0, he0⟩ := farM_step hh ha hb hne
  have hpk := pick_some hh ha hb hne
  have hpl := ((mem_throwsL (by omega)).1 hpk.1).1
  have hmem : t ∈ throwsL h a := (mem_throwsL (by omega)).2 ⟨by omega, hc⟩
  have h1 := farM_arc hh ha hb (c := nextM a t) (List.mem_map.2 ⟨t, hmem, rfl⟩)
  have hp : (farM h (nextM a t) b == farM h a b - 1) = false := by
    unfold pickT at hlt
    cases hf : (throwsL h a).find? fun t => farM h (nextM a t) b == farM h a b - 1 with
    | none =>
      have := List.find?_eq_none.1 hf t0 ht0
      rw [he0] at this
      simp at this
    | some s =>
      rw [hf] at hlt
      exact find_least (throws_sorted h a) hf t hmem hlt
  have : farM h (nextM a t) b ≠ farM h a b - 1 := by simpa using hp
  omega
/-- one step of the shortest throws -/
theorem short_at (hh : 1 ≤ h ∧ h ≤ 10) {s : Int} (hs : s ∈ maskL n h) (hb : b ∈ maskL n h) {X : List Int} {i : Nat} (hd : X.drop i = shortL h s b) (hi : i < X.length) :
    s ≠ b ∧ X.getD i 0 = pickT h b s ∧ canB h s (pickT h b s) = true ∧ (0 ≤ pickT h b s ∧ pickT h b s ≤ h) ∧ nextM s (pickT h b s) ∈ maskL n h ∧ X.drop (i + 1) = shortL h (nextM s (pickT h b s)) b := by
  have hne : s ≠ b := fun e => by
    subst e
    rw [shortL_self] at hd
    have := congrArg List.length hd
    simp at this
    omega
  have h1 := shortL_step hh hs hb hne
  have hpk := pick_some hh hs hb hne
  have hpl := (mem_throwsL (by omega)).1 hpk.1
  rw [h1] at hd
  have hg : X.drop i = X[i] :: X.drop (i + 1) := by simp
  rw [hg] at hd
  injection hd with e1 e2
  have e3 : X.getD i 0 = X[i] := by simp [List.getD, hi]
  exact ⟨hne, by rw [e3, e1], hpl.2, hpl.1, next_mem hh hs hpl.2, e2⟩
theorem short_left (hh : 1 ≤ h ∧ h ≤ 10) {s : Int} (hs : s ∈ maskL n h) (hb : b ∈ maskL n h) {X : List Int} {i : Nat} (hd : X.drop i = shortL h s b) (hi : i ≤ X.length) : farM h s b = (X.length : Int) - (i : Int) := by
  have h1 := congrArg List.length hd
  rw [shortL_len, List.length_drop] at h1
  have h2 := farM_bd hh hs hb
  omega
end
theorem shortX_ok {n h a b : Int} (hh : 1 ≤ h ∧ h ≤ 10) (ha : a ∈ maskL n h) (hb : b ∈ maskL n h) : shortX h a h b = shortL h a b := by
  unfold shortX; rw [link_ok hh ha hb]; rfl
end Go.Proofs.Ytggffkklfdpmkaa
