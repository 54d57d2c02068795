/- Plain lemmas: the distances to a state, by the arcs turned round. No program. -/
import Derived.Test.YtecdmnncfloagaaPlainC
namespace Go.Proofs.Ytecdmnncfloagaa
/-- the arcs of the state at index i, by masks -/
def arcsMAt (L : List Int) (h : Int) (i : Nat) : List (Int × Int) := (throwsL h (L.getD i 0)).map fun t => (L.getD i 0, nextM (L.getD i 0) t)
def arcsMTo (L : List Int) (h : Int) (k : Nat) : List (Int × Int) := (List.range k).flatMap (arcsMAt L h)
def grp (A : List (Int × Int)) (x : Int) : List Int := (A.filter fun a => a.2 == x).map (·.1)
theorem grp_nil : grp [] = fun _ => [] := rfl
theorem grp_snoc (A : List (Int × Int)) (y z : Int) : grp (A ++ [(y, z)]) = fun x => if x = z then grp A z ++ [y] else grp A x := by
  funext x
  unfold grp
  rw [List.filter_append, List.map_append]
  by_cases hx : x = z
  · subst hx; simp
  · have : (z == x) = false := by simp; exact fun e => hx e.symm
    simp [hx, this]
theorem mem_grp {A : List (Int × Int)} {x z : Int} : x ∈ grp A z ↔ (x, z) ∈ A := by
  unfold grp
  rw [List.mem_map]
  constructor
  · rintro ⟨⟨a, b⟩, ha, rfl⟩
    obtain ⟨h1, h2⟩ := List.mem_filter.1 ha
    have : b = z := by simpa using h2
    subst this; exact h1
  · intro h
    exact ⟨(x, z), List.mem_filter.2 ⟨h, by simp⟩, rfl⟩
theorem arcsMTo_succ (L : List Int) (h : Int) (k : Nat) : arcsMTo L h (k + 1) = arcsMTo L h k ++ arcsMAt L h k := by simp [arcsMTo, List.range_succ]
theorem arcsMAt_len (L : List Int) (h : Int) (i : Nat) : (arcsMAt L h i).length = (throwsL h (L.getD i 0)).length := by simp [arcsMAt]
theorem arcsMTo_len (L : List Int) (h : Int) (k : Nat) (hh : 0 ≤ h ∧ h ≤ 10) : (arcsMTo L h k).length ≤ 11 * k := by
  induction k with
  | zero => simp [arcsMTo]
  | succ k ih =>
    rw [arcsMTo_succ, List.length_append, arcsMAt_len]
    have := throwsTo_len h (L.getD k 0) (h + 1).toNat
    unfold throwsL
    omega
theorem arcsMAt_take {L : List Int} {h : Int} {k j : Nat} (hj : j < (throwsL h (L.getD k 0)).length) :
    arcsMTo L h k ++ (arcsMAt L h k).take (j + 1) = (arcsMTo L h k ++ (arcsMAt L h k).take j) ++ [(L.getD k 0, nextM (L.getD k 0) ((throwsL h (L.getD k 0)).getD j 0))] := by
  have hl : j < (arcsMAt L h k).length := by rw [arcsMAt_len]; exact hj
  rw [take_snoc _ _ hl, List.append_assoc]
  congr 2
  have e : (throwsL h (L.getD k 0)).getD j 0 = (throwsL h (L.getD k 0))[j] := by rw [List.getD_eq_getElem?_getD, List.getElem?_eq_getElem hj]; rfl
  rw [e]
  simp only [arcsMAt, List.getElem_map]
theorem arcsMAt_full {L : List Int} {h : Int} {k j : Nat} (hj : ¬ j < (throwsL h (L.getD k 0)).length) : arcsMTo L h k ++ (arcsMAt L h k).take j = arcsMTo L h (k + 1) := by
  rw [arcsMTo_succ, List.take_of_length_le]
  rw [arcsMAt_len]; omega
def adjG (L : List Int) (h : Int) : Int → List Int := grp (arcsMTo L h L.length)
theorem mem_adjG {L : List Int} {h x z : Int} : x ∈ adjG L h z ↔ x ∈ L ∧ z ∈ adjM h x := by
  unfold adjG
  rw [mem_grp]
  unfold arcsMTo
  rw [List.mem_flatMap]
  constructor
  · rintro ⟨i, hi, ha⟩
    have hi := List.mem_range.1 hi
    obtain ⟨t, ht, he⟩ := List.mem_map.1 ha
    cases he
    exact ⟨getD_mem' hi, List.mem_map_of_mem ht⟩
  · rintro ⟨hx, hz⟩
    obtain ⟨i, hi, rfl⟩ := List.getElem_of_mem hx
    obtain ⟨t, ht, rfl⟩ := List.mem_map.1 hz
    have e : L.getD i 0 = L[i] := by simp [List.getD, hi]
    refine ⟨i, List.mem_range.2 hi, List.mem_map.2 ⟨t, by rw [e]; exact ht, by rw [e]⟩⟩
theorem walk_cons {adj : Int → List Int} {a b : Int} (hab : b ∈ adj a) : ∀ {k : Nat} {c : Int}, Walk adj k b c → Walk adj (k + 1) a c := by
  intro k
  induction k with
  | zero => intro c hc; cases hc; exact ⟨a, rfl, hab⟩
  | succ k ih =>
    rintro c ⟨x, h1, h2⟩
    exact ⟨x, ih h1, h2⟩
theorem walk_rev {n h s : Int} (hh : 1 ≤ h ∧ h ≤ 10) (hs : s ∈ maskL n h) : ∀ {k : Nat} {y : Int}, y ∈ maskL n h → (Walk (adjG (maskL n h) h) k s y ↔ Walk (adjM h) k y s) := by
  intro k
  induction k with
  | zero => intro y _; exact ⟨fun h => h.symm, fun h => h.symm⟩
  | succ k ih =>
    intro y hy
    constructor
    · rintro ⟨c, h1, h2⟩
      obtain ⟨_, hc2⟩ := mem_adjG.1 h2
      have hcm := adjM_mem hh hy hc2
      exact walk_cons hc2 ((ih hcm).1 h1)
    · intro hw
      obtain ⟨c, hc, hw'⟩ : ∃ c, c ∈ adjM h y ∧ Walk (adjM h) k c s := by
        clear ih
        induction k generalizing s with
        | zero => obtain ⟨x, h1, h2⟩ := hw; cases h1; exact ⟨s, h2, rfl⟩
        | succ k ih2 =>
          obtain ⟨x, h1, h2⟩ := hw
          have hx : x ∈ maskL n h := walk_mem (fun a ha b hb => adjM_mem hh ha hb) hy h1
          obtain ⟨c, hc, hw2⟩ := ih2 hx h1
          exact ⟨c, hc, x, hw2, h2⟩
      have hcm := adjM_mem hh hy hc
      exact ⟨c, (ih hcm).2 hw', mem_adjG.2 ⟨hy, hc⟩⟩
theorem dist_rev {n h s y : Int} (hh : 1 ≤ h ∧ h ≤ 10) (hs : s ∈ maskL n h) (hy : y ∈ maskL n h) : dist (adjG (maskL n h) h) s y = some (farM h y s) := by
  obtain ⟨_, k, hk, hd⟩ := farM_eq hh hy hs
  rw [hk]
  exact dist_of ⟨(walk_rev hh hs hy).2 hd.1, fun j hj => hd.2 j ((walk_rev hh hs hy).1 hj)⟩
end Go.Proofs.Ytecdmnncfloagaa
