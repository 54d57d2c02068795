/- Plain lemmas on least distances in graphs and on the search by a queue. No program. -/
import Derived.Test.YtecdmnncfloagaaPlainG
namespace Go.Proofs.Ytecdmnncfloagaa
/-- b comes behind k steps from a -/
def Walk (adj : Int → List Int) : Nat → Int → Int → Prop
  | 0, a, b => a = b
  | k + 1, a, b => ∃ c, Walk adj k a c ∧ b ∈ adj c
def IsDist (adj : Int → List Int) (a b : Int) (k : Nat) : Prop := Walk adj k a b ∧ ∀ j, Walk adj j a b → k ≤ j
open Classical in
noncomputable def dist (adj : Int → List Int) (a b : Int) : Option Int := if h : ∃ k, IsDist adj a b k then some ((Classical.choose h : Nat) : Int) else none
theorem isDist_unique {adj : Int → List Int} {a b : Int} {k l : Nat} (h : IsDist adj a b k) (h' : IsDist adj a b l) : k = l := Nat.le_antisymm (h.2 l h'.1) (h'.2 k h.1)
theorem dist_of {adj : Int → List Int} {a b : Int} {k : Nat} (h : IsDist adj a b k) : dist adj a b = some (k : Int) := by
  have hx : ∃ k, IsDist adj a b k := ⟨k, h⟩
  unfold dist
  rw [dif_pos hx, isDist_unique (Classical.choose_spec hx) h]
theorem isDist_of_walk {adj : Int → List Int} {a b : Int} : ∀ {k : Nat}, Walk adj k a b → ∃ l, l ≤ k ∧ IsDist adj a b l := by
  intro k
  induction k using Nat.strongRecOn with
  | _ k ih =>
    intro h
    by_cases hx : ∃ j, j < k ∧ Walk adj j a b
    · obtain ⟨j, hj, hw⟩ := hx
      obtain ⟨l, hl, hd⟩ := ih j hj hw
      exact ⟨l, by omega, hd⟩
    · refine ⟨k, Nat.le_refl _, h, fun j hw => ?_⟩
      rcases Nat.lt_or_ge j k with h1 | h1
      · exact absurd ⟨j, h1, hw⟩ hx
      · exact h1
theorem dist_none {adj : Int → List Int} {a b : Int} (h : ∀ k, ¬ Walk adj k a b) : dist adj a b = none := by
  unfold dist
  rw [dif_neg]
  rintro ⟨k, hk⟩
  exact h k hk.1
theorem dist_some {adj : Int → List Int} {a b d : Int} (h : dist adj a b = some d) : ∃ k : Nat, d = k ∧ IsDist adj a b k := by
  by_cases hx : ∃ k, IsDist adj a b k
  · obtain ⟨k, hk⟩ := hx
    rw [dist_of hk] at h
    exact ⟨k, by cases h; rfl, hk⟩
  · unfold dist at h
    rw [dif_neg hx] at h
    cases h
theorem isDist_zero (adj : Int → List Int) (a : Int) : IsDist adj a a 0 := ⟨rfl, fun _ _ => Nat.zero_le _⟩
theorem walk_trans {adj : Int → List Int} {a b : Int} {k : Nat} (h : Walk adj k a b) : ∀ {l : Nat} {c : Int}, Walk adj l b c → Walk adj (k + l) a c := by
  intro l
  induction l with
  | zero => intro c hc; cases hc; exact h
  | succ l ih =>
    rintro c ⟨x, h1, h2⟩
    exact ⟨x, ih h1, h2⟩
/-- what a map of distances must be -/
theorem dist_eq {adj : Int → List Int} {s : Int} {f : Int → Option Int} (h0 : f s = some 0) (hw : ∀ y d, f y = some d → ∃ k : Nat, d = k ∧ Walk adj k s y)
    (hc : ∀ x d, f x = some d → ∀ y ∈ adj x, ∃ d', f y = some d' ∧ d' ≤ d + 1) : f = dist adj s := by
  have hle : ∀ k y, Walk adj k s y → ∃ d, f y = some d ∧ d ≤ k := by
    intro k
    induction k with
    | zero => intro y hy; cases hy; exact ⟨0, h0, by omega⟩
    | succ k ih =>
      rintro y ⟨x, h1, h2⟩
      obtain ⟨d, hd, hdk⟩ := ih x h1
      obtain ⟨d', hd', hle'⟩ := hc x d hd y h2
      exact ⟨d', hd', by omega⟩
  funext y
  cases hf : f y with
  | none =>
    symm
    exact dist_none fun k hk => by
      obtain ⟨d, hd, _⟩ := hle k y hk
      rw [hf] at hd; cases hd
  | some d =>
    obtain ⟨k, rfl, hk⟩ := hw y d hf
    symm
    refine dist_of ⟨hk, fun j hj => ?_⟩
    obtain ⟨d, hd, hdj⟩ := hle j y hj
    rw [hf] at hd
    cases hd
    omega
/-- the search: O the order in which nodes were found, k the number of the node whose neighbours are looked at, A those that were -/
structure Bfs (adj : Int → List Int) (s : Int) (O : List Int) (f : Int → Option Int) (k : Nat) (A : List Int) : Prop where
  nodup : O.Nodup
  dom : ∀ y, y ∈ O ↔ (f y).isSome = true
  start : f s = some 0
  walk : ∀ y d, f y = some d → ∃ k : Nat, d = k ∧ Walk adj k s y
  sorted : ∀ i j, i ≤ j → j < O.length → (f (O.getD i 0)).getD 0 ≤ (f (O.getD j 0)).getD 0
  top : k < O.length → ∀ j, j < O.length → (f (O.getD j 0)).getD 0 ≤ (f (O.getD k 0)).getD 0 + 1
  bound : ∀ i, i < O.length → 0 ≤ (f (O.getD i 0)).getD 0 ∧ (f (O.getD i 0)).getD 0 ≤ i
  done : ∀ i, i < k → ∀ y ∈ adj (O.getD i 0), ∃ d, f y = some d ∧ d ≤ (f (O.getD i 0)).getD 0 + 1
  part : ∀ y ∈ A, ∃ d, f y = some d ∧ d ≤ (f (O.getD k 0)).getD 0 + 1
theorem nodup_len : ∀ {O L : List Int}, O.Nodup → (∀ y ∈ O, y ∈ L) → O.length ≤ L.length := by
  intro O
  induction O with
  | nil => intro L _ _; simp
  | cons x O ih =>
    intro L hn hs
    have hx : x ∈ L := hs x (List.mem_cons_self ..)
    have hn' := List.nodup_cons.1 hn
    have := ih (L := L.erase x) hn'.2 (fun y hy => (List.mem_erase_of_ne (fun e : y = x => hn'.1 (e ▸ hy))).2 (hs y (List.mem_cons_of_mem _ hy)))
    rw [List.length_erase_of_mem hx] at this
    have hp : 0 < L.length := List.length_pos_of_mem hx
    simp only [List.length_cons]
    omega
theorem getD_mem' {L : List Int} {k : Nat} (hk : k < L.length) : L.getD k 0 ∈ L := by rw [List.getD_eq_getElem?_getD, List.getElem?_eq_getElem hk]; exact List.getElem_mem hk
def fput' (f : Int → Option Int) (k c : Int) : Int → Option Int := fun x => if x = k then some c else f x
theorem Bfs.first (adj : Int → List Int) (s : Int) : Bfs adj s [s] (fput' (fun _ => none) s 0) 0 [] where
  nodup := by simp
  dom := fun y => by unfold fput'; by_cases h : y = s <;> simp [h]
  start := by simp [fput']
  walk := fun y d h => by
    unfold fput' at h
    by_cases hy : y = s
    · rw [if_pos hy] at h; cases h; exact ⟨0, rfl, hy.symm⟩
    · rw [if_neg hy] at h; cases h
  sorted := fun i j h1 h2 => by
    have hj : j = 0 := by simp at h2; omega
    subst hj
    have hi : i = 0 := by omega
    subst hi
    exact Int.le_refl _
  top := fun _ j h2 => by
    have hj : j = 0 := by simp at h2; omega
    subst hj
    omega
  bound := fun i hi => by
    have h0 : i = 0 := by simp at hi; omega
    subst h0
    simp [fput']
  done := fun i hi => by omega
  part := fun y hy => by cases hy
section
variable {adj : Int → List Int} {s : Int} {O : List Int} {f : Int → Option Int} {k : Nat} {A : List Int}
theorem Bfs.mem (h : Bfs adj s O f k A) {y : Int} (hy : y ∈ O) : f y = some ((f y).getD 0) := by
  have := (h.dom y).1 hy
  cases hf : f y with
  | none => rw [hf] at this; cases this
  | some d => rfl
theorem Bfs.mem_le (h : Bfs adj s O f k A) (hk : k < O.length) {y : Int} (hy : y ∈ O) : (f y).getD 0 ≤ (f (O.getD k 0)).getD 0 + 1 := by
  obtain ⟨j, hj, rfl⟩ := List.getElem_of_mem hy
  have := h.top hk j hj
  rwa [show O.getD j 0 = O[j] by simp [List.getD, hj]] at this
/-- a neighbour that was found before -/
theorem Bfs.old (h : Bfs adj s O f k A) (hk : k < O.length) {y : Int} (hy : (f y).isSome = true) : Bfs adj s O f k (A ++ [y]) :=
  { h with
    part := fun z hz => by
      rcases List.mem_append.1 hz with hz | hz
      · exact h.part z hz
      · obtain rfl : z = y := by simpa using hz
        have hm := (h.dom z).2 hy
        exact ⟨_, h.mem hm, h.mem_le hk hm⟩ }
/-- a neighbour that is new -/
theorem Bfs.new (h : Bfs adj s O f k A) (hk : k < O.length) {y : Int} (hy : (f y).isSome = false) (ha : y ∈ adj (O.getD k 0)) :
    Bfs adj s (O ++ [y]) (fput' f y ((f (O.getD k 0)).getD 0 + 1)) k (A ++ [y]) := by
  have hyO : y ∉ O := fun hm => by have := (h.dom y).1 hm; rw [hy] at this; cases this
  have hne : ∀ z ∈ O, z ≠ y := fun z hz e => hyO (e ▸ hz)
  have hput : ∀ z ∈ O, fput' f y ((f (O.getD k 0)).getD 0 + 1) z = f z := fun z hz => by unfold fput'; rw [if_neg (hne z hz)]
  have hnew : fput' f y ((f (O.getD k 0)).getD 0 + 1) y = some ((f (O.getD k 0)).getD 0 + 1) := by unfold fput'; rw [if_pos rfl]
  have hat : ∀ i, i < O.length → (O ++ [y]).getD i 0 = O.getD i 0 := fun i hi => by rw [List.getD_eq_getElem?_getD, List.getD_eq_getElem?_getD, List.getElem?_append_left hi]
  have hlast : (O ++ [y]).getD O.length 0 = y := by simp [List.getD]
  have hOk := getD_mem' hk
  have hkb := h.bound k hk
  have hsO : s ∈ O := (h.dom s).2 (by rw [h.start]; rfl)
  have hl : (O ++ [y]).length = O.length + 1 := by simp
  constructor
  · rw [List.nodup_append]
    exact ⟨h.nodup, by simp, fun a ha b hb => by
      have e : b = y := by simpa using hb
      rw [e]; exact hne a ha⟩
  · intro z
    by_cases hz : z = y
    · subst hz
      rw [hnew]; simp
    · unfold fput'
      rw [if_neg hz, List.mem_append, h.dom z]
      simp [hz]
  · rw [hput s hsO]; exact h.start
  · intro z d hd
    by_cases hz : z = y
    · subst hz
      rw [hnew] at hd
      cases hd
      obtain ⟨l, hl, hw⟩ := h.walk (O.getD k 0) _ (h.mem hOk)
      exact ⟨l + 1, by rw [hl]; simp, _, hw, ha⟩
    · unfold fput' at hd
      rw [if_neg hz] at hd
      exact h.walk z d hd
  · intro i j hij hj
    by_cases hjl : j < O.length
    · rw [hat i (by omega), hat j hjl, hput _ (getD_mem' (by omega)), hput _ (getD_mem' hjl)]
      exact h.sorted i j hij hjl
    · have e : j = O.length := by omega
      subst e
      rw [hlast, hnew]
      by_cases hil : i < O.length
      · rw [hat i hil, hput _ (getD_mem' hil)]
        exact h.top hk i hil
      · have e : i = O.length := by omega
        subst e
        rw [hlast, hnew]
        exact Int.le_refl _
  · intro _ j hj
    rw [hat k hk, hput _ hOk]
    by_cases hjl : j < O.length
    · rw [hat j hjl, hput _ (getD_mem' hjl)]
      exact h.top hk j hjl
    · have e : j = O.length := by omega
      subst e
      rw [hlast, hnew]
      exact Int.le_refl _
  · intro i hi
    by_cases hil : i < O.length
    · rw [hat i hil, hput _ (getD_mem' hil)]
      exact h.bound i hil
    · have e : i = O.length := by omega
      subst e
      rw [hlast, hnew]
      show 0 ≤ (f (O.getD k 0)).getD 0 + 1 ∧ (f (O.getD k 0)).getD 0 + 1 ≤ (O.length : Int)
      omega
  · intro i hi z hz
    rw [hat i (by omega)] at hz ⊢
    rw [hput _ (getD_mem' (by omega))]
    obtain ⟨d, hd, hle⟩ := h.done i hi z hz
    exact ⟨d, by rw [hput z ((h.dom z).2 (by rw [hd]; rfl))]; exact hd, hle⟩
  · intro z hz
    rw [hat k hk, hput _ hOk]
    rcases List.mem_append.1 hz with hz | hz
    · obtain ⟨d, hd, hle⟩ := h.part z hz
      exact ⟨d, by rw [hput z ((h.dom z).2 (by rw [hd]; rfl))]; exact hd, hle⟩
    · obtain rfl : z = y := by simpa using hz
      exact ⟨_, hnew, Int.le_refl _⟩
/-- all neighbours have been looked at -/
theorem Bfs.next (h : Bfs adj s O f k A) (hk : k < O.length) (hA : ∀ y ∈ adj (O.getD k 0), y ∈ A) : Bfs adj s O f (k + 1) [] :=
  { h with
    top := fun hk1 j hj => by
      have h1 := h.top hk j hj
      have h2 := h.sorted k (k + 1) (by omega) hk1
      omega
    done := fun i hi y hy => by
      by_cases e : i = k
      · subst e; exact h.part y (hA y hy)
      · exact h.done i (by omega) y hy
    part := fun y hy => by cases hy }
theorem Bfs.all (h : Bfs adj s O f k A) (hk : ¬ k < O.length) : f = dist adj s :=
  dist_eq h.start h.walk fun x d hd y hy => by
    have hx : x ∈ O := (h.dom x).2 (by rw [hd]; rfl)
    obtain ⟨i, hi, rfl⟩ := List.getElem_of_mem hx
    have e : O.getD i 0 = O[i] := by simp [List.getD, hi]
    obtain ⟨d', h1, h2⟩ := h.done i (by omega) y (by rw [e]; exact hy)
    rw [e, hd] at h2
    exact ⟨d', h1, h2⟩
/-- the nodes that were found lie in a list of nodes that is closed -/
theorem Bfs.len (h : Bfs adj s O f k A) {L : List Int} (hO : ∀ y ∈ O, y ∈ L) : O.length ≤ L.length := by
  exact nodup_len h.nodup hO
end
end Go.Proofs.Ytecdmnncfloagaa
