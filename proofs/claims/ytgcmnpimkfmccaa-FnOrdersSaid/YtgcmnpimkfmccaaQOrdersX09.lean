/- The law OrdersX: what it rests on, part 9 of 48. -/
import Derived.Test.YtgcmnpimkfmccaaQOrdersX08
namespace Go.RowKit
set_option linter.unusedVariables false
set_option linter.unusedSimpArgs false
def lastI (O : List Int) : Nat := (O.getLast?.getD 0).toNat
def cutO : Option (List Int × Int) → Int → Bool
  | none, _ => false
  | some p, s => decide (p.2 ≤ s)
def betO : Option (List Int × Int) → List Int → Int → Option (List Int × Int)
  | none, O, a => some (O, a)
  | some p, O, a => if a < p.2 then some (O, a) else some p
/-- the places as they are, and what lies between them -/
structure Far where
  costs : List (List Int)
  first : List Int
  last : List Int
def costO (F : Far) (O : List Int) (k : Nat) : Int := if O = [] then F.first.getD k 0 else (F.costs.getD (lastI O) []).getD k 0
def walkO (F : Far) : Nat → List Int → Int → Option (List Int × Int) → Option (List Int × Int)
  | 0, O, s, b => if cutO b s = true then b else betO b O (s + F.last.getD (lastI O) 0)
  | d + 1, O, s, b => if cutO b s = true then b else (List.range F.first.length).foldl (fun b (k : Nat) => if (k : Int) ∈ O then b else walkO F d (O ++ [(k : Int)]) (s + costO F O k) b) b
def roundO (F : Far) (d : Nat) (O : List Int) (s : Int) (b : Option (List Int × Int)) (k : Nat) : Option (List Int × Int) :=
  if (k : Int) ∈ O then b else walkO F d (O ++ [(k : Int)]) (s + costO F O k) b
def foldO (F : Far) (d : Nat) (O : List Int) (s : Int) (b : Option (List Int × Int)) (k : Nat) : Option (List Int × Int) := (List.range k).foldl (roundO F d O s) b
theorem foldO_zero (F : Far) (d : Nat) (O : List Int) (s : Int) (b : Option (List Int × Int)) : foldO F d O s b 0 = b := rfl
theorem foldO_succ (F : Far) (d : Nat) (O : List Int) (s : Int) (b : Option (List Int × Int)) (k : Nat) : foldO F d O s b (k + 1) = roundO F d O s (foldO F d O s b k) k := by
  unfold foldO
  rw [List.range_succ, List.foldl_append]
  rfl
theorem walkO_cut (F : Far) (d : Nat) (O : List Int) (s : Int) (b : Option (List Int × Int)) (h : cutO b s = true) : walkO F d O s b = b := by
  cases d <;> simp [walkO, h]
theorem walkO_zero (F : Far) (O : List Int) (s : Int) (b : Option (List Int × Int)) (h : cutO b s = false) : walkO F 0 O s b = betO b O (s + F.last.getD (lastI O) 0) := by simp [walkO, h]
theorem walkO_succ (F : Far) (d : Nat) (O : List Int) (s : Int) (b : Option (List Int × Int)) (h : cutO b s = false) : walkO F (d + 1) O s b = foldO F d O s b F.first.length := by
  simp only [walkO, h]
  rfl
/-- what is kept stays kept, and is never worse -/
theorem walkO_some (F : Far) : ∀ d O s p, ∃ q, walkO F d O s (some p) = some q ∧ q.2 ≤ p.2
  | 0, O, s, p => by
    cases h : cutO (some p) s
    · rw [walkO_zero F O s _ h]
      unfold betO
      by_cases h2 : s + F.last.getD (lastI O) 0 < p.2
      · simp only [h2, if_true]; exact ⟨_, rfl, by show s + F.last.getD (lastI O) 0 ≤ p.2; omega⟩
      · simp only [h2, if_false]; exact ⟨_, rfl, Int.le_refl _⟩
    · rw [walkO_cut F _ O s _ h]; exact ⟨_, rfl, Int.le_refl _⟩
  | d + 1, O, s, p => by
    cases h : cutO (some p) s
    · rw [walkO_succ F d O s _ h]
      have key : ∀ k, ∃ q, foldO F d O s (some p) k = some q ∧ q.2 ≤ p.2 := by
        intro k
        induction k with
        | zero => exact ⟨p, rfl, Int.le_refl _⟩
        | succ k ih =>
          obtain ⟨q, hq, hl⟩ := ih
          rw [foldO_succ, hq]
          unfold roundO
          by_cases h3 : (k : Int) ∈ O
          · rw [if_pos h3]; exact ⟨q, rfl, hl⟩
          · rw [if_neg h3]
            obtain ⟨r, hr, hl2⟩ := walkO_some F d (O ++ [(k : Int)]) (s + costO F O k) q
            exact ⟨r, hr, by omega⟩
      exact key _
    · rw [walkO_cut F _ O s _ h]; exact ⟨_, rfl, Int.le_refl _⟩
/-- orders of places: no place twice, places only -/
structure PathO (n : Nat) (O : List Int) : Prop where
  nd : O.Nodup
  rg : ∀ x ∈ O, 0 ≤ x ∧ x < n
theorem PathO.nil (n : Nat) : PathO n [] := ⟨List.nodup_nil, by simp⟩
theorem PathO.snoc {n : Nat} {O : List Int} (h : PathO n O) {k : Nat} (hk : k < n) (hn : (k : Int) ∉ O) : PathO n (O ++ [(k : Int)]) := by
  refine ⟨?_, ?_⟩
  · rw [List.nodup_append]
    refine ⟨h.nd, by simp, ?_⟩
    intro a ha b hb
    simp only [List.mem_cons, List.not_mem_nil, or_false] at hb
    subst hb
    intro e; subst e; exact hn ha
  · intro x hx
    rcases List.mem_append.1 hx with hx | hx
    · exact h.rg x hx
    · simp only [List.mem_cons, List.not_mem_nil, or_false] at hx
      subst hx; omega
theorem nodup_free {n : Nat} {O : List Int} (h : PathO n O) (hl : O.length < n) : ∃ k, k < n ∧ (k : Int) ∉ O := by
  refine Classical.byContradiction (fun hc => ?_)
  have hall : ∀ k, k < n → (k : Int) ∈ O := fun k hk => Classical.byContradiction (fun hm => hc ⟨k, hk, hm⟩)
  have key : ∀ (m : Nat) (Q : List Int), (∀ k, k < m → (k : Int) ∈ Q) → m ≤ Q.length := by
    intro m
    induction m with
    | zero => intro Q _; omega
    | succ m ih =>
      intro Q hQ
      have h1 := ih (Q.erase (m : Int)) (fun k hk => by
        have h2 := hQ k (by omega)
        have : (k : Int) ≠ (m : Int) := by omega
        exact (List.mem_erase_of_ne this).2 h2)
      have h3 := hQ m (by omega)
      rw [List.length_erase_of_mem h3] at h1
      have : 0 < Q.length := List.length_pos_of_mem h3
      omega
  have := key n O hall
  omega
/-- the sum of an order's costs -/
def pathC (F : Far) (O : List Int) : Int := ((List.range O.length).map (fun i => costO F (O.take i) (O.getD i 0).toNat)).sum
theorem pathC_snoc (F : Far) (O : List Int) (k : Nat) : pathC F (O ++ [(k : Int)]) = pathC F O + costO F O k := by
  unfold pathC
  rw [List.length_append, List.length_singleton, List.range_succ, List.map_append, List.sum_append]
  congr 1
  · congr 1
    refine List.map_congr_left (fun i hi => ?_)
    have hi := List.mem_range.1 hi
    rw [List.take_append_of_le_length (by omega)]
    congr 2
    simp [List.getD, List.getElem?_append_left hi]
  · simp [List.getD]
/-- what is kept is an order of all places, with its sum -/
def OkO (F : Far) : Option (List Int × Int) → Prop
  | none => True
  | some p => PathO F.first.length p.1 ∧ p.1.length = F.first.length ∧ p.2 = pathC F p.1 + F.last.getD (lastI p.1) 0
theorem walkO_ok (F : Far) : ∀ d O s b, PathO F.first.length O → O.length + d = F.first.length → s = pathC F O → OkO F b → OkO F (walkO F d O s b)
  | 0, O, s, b, hp, hl, hs, hb => by
    cases h : cutO b s
    · rw [walkO_zero F O s _ h]
      have hn : OkO F (some (O, s + F.last.getD (lastI O) 0)) := ⟨hp, by simpa using hl, by show s + _ = _; rw [hs]⟩
      cases b with
      | none => exact hn
      | some p =>
        unfold betO
        by_cases h2 : s + F.last.getD (lastI O) 0 < p.2
        · simp only [h2, if_true]; exact hn
        · simp only [h2, if_false]; exact hb
    · rw [walkO_cut F _ O s _ h]; exact hb
  | d + 1, O, s, b, hp, hl, hs, hb => by
    cases h : cutO b s
    · rw [walkO_succ F d O s _ h]
      have key : ∀ k, k ≤ F.first.length → OkO F (foldO F d O s b k) := by
        intro k
        induction k with
        | zero => intro _; exact hb
        | succ k ih =>
          intro hk
          rw [foldO_succ]
          unfold roundO
          by_cases h3 : (k : Int) ∈ O
          · rw [if_pos h3]; exact ih (by omega)
          · rw [if_neg h3]
            refine walkO_ok F d _ _ _ (hp.snoc (by omega) h3) (by rw [List.length_append, List.length_singleton]; omega) ?_ (ih (by omega))
            rw [pathC_snoc, hs]
      exact key _ (Nat.le_refl _)
    · rw [walkO_cut F _ O s _ h]; exact hb
/-- the search finds an order, and its sum is not larger than the largest -/
theorem walkO_reach (F : Far) (C : Int) (hC0 : 0 ≤ C) (hC : ∀ O k, O ≠ [] → costO F O k ≤ C) (hL : ∀ k, F.last.getD k 0 ≤ C) :
    ∀ d O s b, O ≠ [] → PathO F.first.length O → O.length + d = F.first.length → ∃ q, walkO F d O s b = some q ∧ (b = none → q.2 ≤ s + (d + 1) * C)
  | 0, O, s, b, hO, hp, hl => by
    cases b with
    | none =>
      refine ⟨_, rfl, fun _ => ?_⟩
      show s + F.last.getD (lastI O) 0 ≤ _
      have := hL (lastI O)
      rw [show (((0 : Nat) : Int) + 1) * C = C by simp]
      omega
    | some p => obtain ⟨q, hq, -⟩ := walkO_some F 0 O s p; exact ⟨q, hq, fun e => by cases e⟩
  | d + 1, O, s, b, hO, hp, hl => by
    cases b with
    | some p => obtain ⟨q, hq, -⟩ := walkO_some F (d + 1) O s p; exact ⟨q, hq, fun e => by cases e⟩
    | none =>
      rw [walkO_succ F d O s none rfl]
      obtain ⟨k0, hk0, hm0⟩ := nodup_free hp (by omega)
      have key : ∀ k, k ≤ F.first.length → (foldO F d O s none k = none ∧ k ≤ k0) ∨ ∃ q, foldO F d O s none k = some q ∧ q.2 ≤ s + (d + 2) * C := by
        intro k
        induction k with
        | zero => intro _; exact Or.inl ⟨rfl, by omega⟩
        | succ k ih =>
          intro hk
          rw [foldO_succ]
          unfold roundO
          rcases ih (by omega) with ⟨h1, h2⟩ | ⟨q, h1, h2⟩
          · by_cases h3 : (k : Int) ∈ O
            · rw [if_pos h3]
              refine Or.inl ⟨h1, ?_⟩
              have : k ≠ k0 := fun e => by subst e; exact hm0 h3
              omega
            · rw [if_neg h3, h1]
              obtain ⟨q, hq, hl2⟩ := walkO_reach F C hC0 hC hL d (O ++ [(k : Int)]) (s + costO F O k) none (by simp) (hp.snoc (by omega) h3) (by rw [List.length_append, List.length_singleton]; omega)
              refine Or.inr ⟨q, hq, ?_⟩
              have h5 := hl2 rfl
              have h6 := hC O k hO
              have h7 : ((d : Int) + 2) * C = (d + 1) * C + C := by
                rw [show (d : Int) + 2 = (d + 1) + 1 by omega, Int.add_mul, Int.one_mul]
              omega
          · right
            by_cases h3 : (k : Int) ∈ O
            · rw [if_pos h3]; exact ⟨q, h1, h2⟩
            · rw [if_neg h3, h1]
              obtain ⟨r, hr, hl2⟩ := walkO_some F d (O ++ [(k : Int)]) (s + costO F O k) q
              exact ⟨r, hr, by omega⟩
      rcases key _ (Nat.le_refl _) with ⟨-, h2⟩ | ⟨q, h1, h2⟩
      · omega
      · refine ⟨q, h1, fun _ => ?_⟩
        have e : ((d + 1 : Nat) : Int) + 1 = (d : Int) + 2 := by omega
        rw [e]
        exact h2
end Go.RowKit
