/- The law OrdersX: what it rests on, part 26 of 48. -/
import Derived.Deep.RegionHeld3
import Derived.Test.YtgcmnpimkfmccaaQOrdersX04
namespace Go.RowKit
open Go.ChangeShapes Go.WideShapes Go.ChangeAt
set_option linter.unusedVariables false
section
variable {P : Program} {ops : Array Oper} {Q : Exit → Act → World → Prop} {md : Region.Mode} {S : Array Bool → World → Prop}
/-- whatever order is picked: behind each operation S holds of what has come up and of the world -/
def wpAnyL (P : Program) (md : Region.Mode) (ops : Array Oper) (Q : Exit → Act → World → Prop) (S : Array Bool → World → Prop) : Nat → Array Bool → Act → World → Prop
  | 0, L, a, w => Region.ready md ops L = [] ∧ Q .normal a w
  | m + 1, L, a, w => (Region.ready md ops L = [] → Q .normal a w) ∧
    ∀ i ∈ Region.ready md ops L, wpOp P ops Q i (fun a' w' => S (L.setIfInBounds i true) w' ∧ wpAnyL P md ops Q S m (L.setIfInBounds i true) a' w') a w
theorem wpAnyL.any : ∀ (m : Nat) (L : Array Bool) (a : Act) (w : World), wpAnyL P md ops Q S m L a w → wpAny P md ops Q m L a w
  | 0, _, _, _, h => h
  | m + 1, _, _, _, h => ⟨h.1, fun i hi => wpOp_mono (fun a' w' h' => wpAnyL.any m _ a' w' h'.2) (h.2 i hi)⟩
/-- operation i is taken first: as long as q, which waits for it, has not come up, S gives S0, under which i yields its value -/
theorem wpAnyL_first {S0 : World → Prop} {i q : Nat} {oi oq : Oper} {v : Value} (hi : ops[i]? = some oi) (hoq : ops[q]? = some oq) (hwt : ∃ e ∈ oq.after, Region.binds md e = true ∧ e.on = i)
    (hsel : ∀ (j : Nat) (o : Oper) cs b, ops[j]? = some o → o.op ≠ .select cs b)
    (hQ : ∀ c a w, Q (.panic c) (a.put oi.dst v) w → Q (.panic c) a w)
    (hS0 : ∀ L w, L.getD q true = false → S L w → S0 w) (hSi : ∀ L w, S (L.setIfInBounds i true) w ↔ S L w) :
    ∀ (m : Nat) (L : Array Bool) (a : Act) (w : World),
      (∀ j oj, ops[j]? = some oj → j ≠ i → L.getD j true = false → (∀ e ∈ oj.after, Region.binds md e = true → e.on ≠ i) → oi.apart ops oj = true) →
      i ∈ Region.ready md ops L → L.getD q true = false → YieldsIf P ops S0 oi v a → S L w →
      wpAnyL P md ops Q S m (L.setIfInBounds i true) (a.put oi.dst v) w → wpAnyL P md ops Q S (m + 1) L a w := by
  intro m
  induction m with
  | zero =>
    intro L a w _ hr hq hy hS H
    refine ⟨fun h => (by rw [h] at hr; cases hr), fun j hj => ?_⟩
    by_cases hji : j = i
    · subst hji
      exact hy.wpOp hi (hS0 L w hq hS) ⟨(hSi L w).2 hS, H⟩
    · have := ready_mono hj hji
      rw [H.1] at this
      cases this
  | succ m ih =>
    intro L a w hfree hr hq hy hS H
    refine ⟨fun h => (by rw [h] at hr; cases hr), fun j hj => ?_⟩
    by_cases hji : j = i
    · subst hji
      exact hy.wpOp hi (hS0 L w hq hS) ⟨(hSi L w).2 hS, H⟩
    · have h1 := H.2 j (ready_mono hj hji)
      obtain ⟨hjun, oj, hoj, hall⟩ := mem_ready.1 hj
      have hun := (mem_ready.1 hr).1
      have hnot : ∀ e ∈ oj.after, Region.binds md e = true → e.on ≠ i := fun e he hb heq => by
        have t1 := hall e he hb
        rw [heq] at t1
        rcases Nat.lt_or_ge i L.size with t2 | t2
        · simp [t2] at hun t1
          rw [hun] at t1
          cases t1
        · simp [Array.getElem?_eq_none t2] at t1
      have hjq : j ≠ q := fun e => by
        subst e
        rw [hoj] at hoq
        cases hoq
        obtain ⟨ed, he, hb, ho⟩ := hwt
        exact hnot ed he hb ho
      have h2 := wpOp_putIf hoj (hfree j oj hoj hji hjun hnot) (fun cs b => hsel i oi cs b hi) (fun cs b => hsel j oj cs b hoj) hQ hy h1
      have hfree' : ∀ k ok, ops[k]? = some ok → k ≠ i → (L.setIfInBounds j true).getD k true = false →
          (∀ e ∈ ok.after, Region.binds md e = true → e.on ≠ i) → oi.apart ops ok = true := fun k ok hk hki hku hno => by
        refine hfree k ok hk hki ?_ hno
        by_cases hjk : j = k
        · subst hjk; exact hjun
        · rw [getD_set_ne true hjk] at hku; exact hku
      refine wpOp_mono (fun a' w' h3 => ?_) h2
      obtain ⟨h4, h5, h6⟩ := h3
      rw [Array.setIfInBounds_comm _ _ (Ne.symm hji)] at h5 h6
      have h7 := (hSi _ _).1 h5
      exact ⟨h7, ih (L.setIfInBounds j true) a' w' hfree' (ready_mono hr (Ne.symm hji)) (by rw [getD_set_ne true hjq]; exact hq) h4 h7 h6⟩
theorem wpAnyL_take {S0 : World → Prop} {i q : Nat} {oi oq : Oper} {v : Value} {m : Nat} {L : Array Bool} {a : Act} {w : World} (hi : ops[i]? = some oi) (hoq : ops[q]? = some oq)
    (hwt : (oq.after.any fun e => Region.binds md e && e.on == i) = true)
    (hs : Region.noSelect ops = true) (hf : Region.free md ops L i = true) (hr : (Region.ready md ops L).contains i = true) (hq : L.getD q true = false)
    (hQ : ∀ c a w, Q (.panic c) (a.put oi.dst v) w → Q (.panic c) a w)
    (hS0 : ∀ L w, L.getD q true = false → S L w → S0 w) (hSi : ∀ L w, S (L.setIfInBounds i true) w ↔ S L w)
    (hy : YieldsIf P ops S0 oi v a) (hS : S L w)
    (h : wpAnyL P md ops Q S m (L.setIfInBounds i true) (a.put oi.dst v) w) : wpAnyL P md ops Q S (m + 1) L a w :=
  wpAnyL_first hi hoq (by
    obtain ⟨k, hk, he⟩ := Array.any_eq_true.1 hwt
    rw [Bool.and_eq_true] at he
    exact ⟨oq.after[k], Array.getElem_mem hk, he.1, by simpa using he.2⟩) (Region.noSelect_spec hs) hQ hS0 hSi m L a w (Region.free_spec hi hf) (by simpa using hr) hq hy hS h
def AllReadyL (P : Program) (md : Region.Mode) (ops : Array Oper) (Q : Exit → Act → World → Prop) (S : Array Bool → World → Prop) (m : Nat) (L : Array Bool) (a : Act) (w : World) (rs : List Nat) : Prop :=
  ∀ i ∈ rs, wpOp P ops Q i (fun a' w' => S (L.setIfInBounds i true) w' ∧ wpAnyL P md ops Q S m (L.setIfInBounds i true) a' w') a w
theorem AllReadyL.nil {m : Nat} {L : Array Bool} {a : Act} {w : World} : AllReadyL P md ops Q S m L a w [] := fun _ h => by cases h
theorem AllReadyL.cons {m : Nat} {L : Array Bool} {a : Act} {w : World} {i : Nat} {o : Oper} {rs : List Nat} (ho : ops[i]? = some o)
    (h : ∀ K' : Act → World → Prop, Shut (∀ a w, S (L.setIfInBounds i true) w → (S (L.setIfInBounds i true) w → wpAnyL P md ops Q S m (L.setIfInBounds i true) a w) → K' a w) → if Region.wanted o (yielded ops a.tmps) = true then Oper.wp P o a w K' Q else K' (a.put o.dst undef) w)
    (hs : AllReadyL P md ops Q S m L a w rs) : AllReadyL P md ops Q S m L a w (i :: rs) := fun j hj => by
  rcases List.mem_cons.1 hj with rfl | hj
  · exact wpOp_step ho (fun K' hK => h K' (fun a w hS hW => hK a w ⟨hS, hW hS⟩))
  · exact hs j hj
theorem wpAnyL_ready {rs : List Nat} {m : Nat} {L : Array Bool} {a : Act} {w : World} (hr : Region.ready md ops L = rs) (hne : rs ≠ [])
    (h : AllReadyL P md ops Q S m L a w rs) : wpAnyL P md ops Q S (m + 1) L a w := ⟨fun h0 => absurd (hr ▸ h0) hne, hr ▸ h⟩
theorem wpAnyL_done {L : Array Bool} {a : Act} {w : World} (hr : Region.ready md ops L = []) (h : Q .normal a w) : ∀ m, wpAnyL P md ops Q S m L a w
  | 0 => ⟨hr, h⟩
  | _ + 1 => ⟨fun _ => h, by rw [hr]; simp⟩
theorem wp_region_L {id : Nat} {a : Act} {w : World} (hm : P.follows .mixedOrders = true)
    (h : wpAnyL P .any ops Q S ops.size (Array.replicate ops.size false) a w.drew) : (Code.region id ops true).wp P Q a w :=
  wp_region_any hm (wpAnyL.any _ _ _ _ h)
end
/-- two conditions, each as long as an operation has not come up -/
def untilL (q1 q2 : Nat) (A B : World → Prop) (L : Array Bool) (w : World) : Prop := (L.getD q1 true = false → A w) ∧ (L.getD q2 true = false → B w)
theorem untilL_set {q1 q2 i : Nat} {A B : World → Prop} (h1 : i ≠ q1) (h2 : i ≠ q2) (L : Array Bool) (w : World) : untilL q1 q2 A B (L.setIfInBounds i true) w ↔ untilL q1 q2 A B L w := by
  unfold untilL
  rw [getD_set_ne true h1, getD_set_ne true h2]
end Go.RowKit
