/- Plain lemmas: the shortest throws from a state to another one. No program. -/
import Derived.Test.YtecdmnncfloagaaPlainT
namespace Go.Proofs.Ytecdmnncfloagaa
theorem walk_uncons {adj : Int → List Int} : ∀ {k : Nat} {a b : Int}, Walk adj (k + 1) a b → ∃ c, c ∈ adj a ∧ Walk adj k c b := by
  intro k
  induction k with
  | zero =>
    rintro a b ⟨c, h1, h2⟩
    cases h1
    exact ⟨b, h2, rfl⟩
  | succ k ih =>
    rintro a b ⟨c, h1, h2⟩
    obtain ⟨d, h3, h4⟩ := ih h1
    exact ⟨d, h3, c, h4, h2⟩
section
variable {n h a b : Int}
theorem farM_self (h a : Int) : farM h a a = 0 := by
  unfold farM
  rw [dist_of (isDist_zero _ _)]
  rfl
theorem farM_zero (hh : 1 ≤ h ∧ h ≤ 10) (ha : a ∈ maskL n h) (hb : b ∈ maskL n h) (h0 : farM h a b = 0) : a = b := by
  obtain ⟨_, k, hk, hd⟩ := farM_eq hh ha hb
  have : k = 0 := by omega
  subst this
  exact hd.1
/-- one throw shortens the way by one at most -/
theorem farM_arc (hh : 1 ≤ h ∧ h ≤ 10) (ha : a ∈ maskL n h) (hb : b ∈ maskL n h) {c : Int} (hc : c ∈ adjM h a) : farM h a b ≤ farM h c b + 1 := by
  have hcm := adjM_mem hh ha hc
  obtain ⟨_, k, hk, hd⟩ := farM_eq hh ha hb
  obtain ⟨_, l, hl, hd'⟩ := farM_eq hh hcm hb
  have := hd.2 (l + 1) (walk_cons hc hd'.1)
  omega
/-- and makes it longer by one at most from the far end -/
theorem farM_arc' (hh : 1 ≤ h ∧ h ≤ 10) (ha : a ∈ maskL n h) (hb : b ∈ maskL n h) {c : Int} (hc : c ∈ adjM h b) : farM h a c ≤ farM h a b + 1 := by
  have hcm := adjM_mem hh hb hc
  obtain ⟨_, k, hk, hd⟩ := farM_eq hh ha hb
  obtain ⟨_, l, hl, hd'⟩ := farM_eq hh ha hcm
  have := hd'.2 (k + 1) ⟨b, hd.1, hc⟩
  omega
theorem farM_step (hh : 1 ≤ h ∧ h ≤ 10) (ha : a ∈ maskL n h) (hb : b ∈ maskL n h) (hne : a ≠ b) : ∃ t, t ∈ throwsL h a ∧ farM h (nextM a t) b = farM h a b - 1 := by
  obtain ⟨_, k, hk, hd⟩ := farM_eq hh ha hb
  cases k with
  | zero => exact absurd hd.1 hne
  | succ k =>
    obtain ⟨c, hc, hw⟩ := walk_uncons hd.1
    have hcm := adjM_mem hh ha hc
    have h1 := farM_arc hh ha hb hc
    obtain ⟨_, l, hl, hd'⟩ := farM_eq hh hcm hb
    have h2 := hd'.2 k hw
    obtain ⟨t, ht, rfl⟩ := List.mem_map.1 hc
    exact ⟨t, ht, by omega⟩
/-- the least throw that leads on -/
noncomputable def pickT (h b a : Int) : Int := ((throwsL h a).find? fun t => farM h (nextM a t) b == farM h a b - 1).getD 0
theorem pick_some (hh : 1 ≤ h ∧ h ≤ 10) (ha : a ∈ maskL n h) (hb : b ∈ maskL n h) (hne : a ≠ b) : pickT h b a ∈ throwsL h a ∧ farM h (nextM a (pickT h b a)) b = farM h a b - 1 := by
  obtain ⟨t, ht, he⟩ := farM_step hh ha hb hne
  unfold pickT
  cases hf : (throwsL h a).find? fun t => farM h (nextM a t) b == farM h a b - 1 with
  | none =>
    have := List.find?_eq_none.1 hf t ht
    rw [he] at this
    simp at this
  | some s =>
    have h1 := List.find?_some hf
    have h2 := List.mem_of_find?_eq_some hf
    exact ⟨h2, by simpa using h1⟩
theorem pick_at {T : List Int} {p : Int → Bool} {j : Nat} (hj : j < T.length) (hno : ∀ t ∈ T.take j, p t = false) (hyes : p (T.getD j 0) = true) : T.find? p = some (T.getD j 0) := by
  have e : T.getD j 0 = T[j] := by simp [List.getD, hj]
  rw [e] at hyes ⊢
  have hT : T = T.take j ++ T[j] :: T.drop (j + 1) := by rw [List.getElem_cons_drop, List.take_append_drop]
  conv => lhs; rw [hT]
  rw [List.find?_append, List.find?_eq_none.2 (fun x hx => by rw [hno x hx]; simp), List.find?_cons_of_pos hyes]
  rfl
theorem pick_not (hh : 1 ≤ h ∧ h ≤ 10) (ha : a ∈ maskL n h) (hb : b ∈ maskL n h) (hne : a ≠ b) (hno : ∀ t ∈ throwsL h a, (farM h (nextM a t) b == farM h a b - 1) = false) : False := by
  obtain ⟨t, ht, he⟩ := farM_step hh ha hb hne
  have := hno t ht
  rw [he] at this
  simp at this
noncomputable def shortF (h b : Int) : Nat → Int → List Int
  | 0, _ => []
  | k + 1, a => pickT h b a :: shortF h b k (nextM a (pickT h b a))
noncomputable def shortL (h a b : Int) : List Int := shortF h b (farM h a b).toNat a
theorem shortF_len (h b : Int) : ∀ (k : Nat) (a : Int), (shortF h b k a).length = k := by
  intro k
  induction k with
  | zero => intro a; rfl
  | succ k ih => intro a; simp [shortF, ih]
theorem shortL_len (h a b : Int) : (shortL h a b).length = (farM h a b).toNat := shortF_len _ _ _ _
theorem shortL_self (h a : Int) : shortL h a a = [] := by
  unfold shortL
  rw [farM_self]
  rfl
theorem shortL_step (hh : 1 ≤ h ∧ h ≤ 10) (ha : a ∈ maskL n h) (hb : b ∈ maskL n h) (hne : a ≠ b) : shortL h a b = pickT h b a :: shortL h (nextM a (pickT h b a)) b := by
  obtain ⟨_, k, hk, hd⟩ := farM_eq hh ha hb
  cases k with
  | zero => exact absurd hd.1 hne
  | succ k =>
    have h1 := (pick_some hh ha hb hne).2
    unfold shortL
    rw [h1, hk]
    have e1 : ((k + 1 : Nat) : Int).toNat = k + 1 := by omega
    have e2 : (((k + 1 : Nat) : Int) - 1).toNat = k := by omega
    rw [e1, e2]
    rfl
end
/-- the arcs turned round, by indices -/
def backL (L : List Int) (h : Int) : List (Int × Int × Int) := (arcsL L h).map fun a => (a.2.2, (0 : Int), a.1)
theorem backL_len (L : List Int) (h : Int) : (backL L h).length = (arcsL L h).length := by simp [backL]
theorem mem_arcsL {L : List Int} {h : Int} {a : Int × Int × Int} : a ∈ arcsL L h ↔ ∃ i, i < L.length ∧ ∃ t ∈ throwsL h (L.getD i 0), a = ((i : Int), t, idxI L (nextM (L.getD i 0) t)) := by
  unfold arcsL arcsTo arcsAt idxI
  simp only [List.mem_flatMap, List.mem_range, List.mem_map]
  constructor
  · rintro ⟨i, hi, t, ht, rfl⟩; exact ⟨i, hi, t, ht, rfl⟩
  · rintro ⟨i, hi, t, ht, rfl⟩; exact ⟨i, hi, t, ht, rfl⟩
theorem mem_backL {n h x z : Int} (hh : 1 ≤ h ∧ h ≤ 10) (hx : x ∈ maskL n h) :
    z ∈ adjX (backL (maskL n h) h) (idxI (maskL n h) x) ↔ ∃ y, y ∈ adjG (maskL n h) h x ∧ idxI (maskL n h) y = z := by
  have hn := nodup_of_sorted (maskL_sorted n h)
  unfold adjX backL
  simp only [List.mem_map, List.mem_filter]
  constructor
  · rintro ⟨_, ⟨⟨a, ha, rfl⟩, he⟩, rfl⟩
    obtain ⟨i, hi, t, ht, rfl⟩ := mem_arcsL.1 ha
    have hy := getD_mem' hi
    have hnx : nextM ((maskL n h).getD i 0) t ∈ maskL n h := adjM_mem hh hy (List.mem_map_of_mem ht)
    have e1 := idxI_inj hnx hx (by simpa using he)
    refine ⟨(maskL n h).getD i 0, mem_adjG.2 ⟨hy, by rw [← e1]; exact List.mem_map_of_mem ht⟩, ?_⟩
    have e : (maskL n h).getD i 0 = (maskL n h)[i] := by simp [List.getD, hi]
    rw [e]
    unfold idxI
    rw [idx_at hn i hi]
  · rintro ⟨y, hy, rfl⟩
    obtain ⟨h1, h2⟩ := mem_adjG.1 hy
    obtain ⟨t, ht, he⟩ := List.mem_map.1 h2
    have hl := idx_lt h1
    have hg := idx_get h1
    have e : (maskL n h).getD (idx (maskL n h) y) 0 = y := by rw [List.getD_eq_getElem?_getD, List.getElem?_eq_getElem hl, hg]; rfl
    refine ⟨_, ⟨⟨(((idx (maskL n h) y : Nat) : Int), t, idxI (maskL n h) x), mem_arcsL.2 ⟨idx (maskL n h) y, hl, t, by rw [e]; exact ht, by rw [e, he]⟩, rfl⟩, ?_⟩, rfl⟩
    simp
theorem walk_iso' {adj adj' : Int → List Int} {L : List Int} {φ : Int → Int} (hc : ∀ x ∈ L, ∀ y ∈ adj x, y ∈ L) (he : ∀ x ∈ L, ∀ z, z ∈ adj' (φ x) ↔ ∃ y, y ∈ adj x ∧ φ y = z) {a : Int} (ha : a ∈ L) :
    ∀ {k : Nat} {z : Int}, Walk adj' k (φ a) z ↔ ∃ b, Walk adj k a b ∧ φ b = z := by
  intro k
  induction k with
  | zero =>
    intro z
    constructor
    · intro h; exact ⟨a, rfl, h⟩
    · rintro ⟨b, rfl, h⟩; exact h
  | succ k ih =>
    intro z
    constructor
    · rintro ⟨c, h1, h2⟩
      obtain ⟨b, hb, rfl⟩ := ih.1 h1
      obtain ⟨y, hy, rfl⟩ := (he b (walk_mem hc ha hb) z).1 h2
      exact ⟨y, ⟨b, hb, hy⟩, rfl⟩
    · rintro ⟨y, ⟨b, hb, hy⟩, rfl⟩
      exact ⟨φ b, ih.2 ⟨b, hb, rfl⟩, (he b (walk_mem hc ha hb) _).2 ⟨y, hy, rfl⟩⟩
theorem dist_back {n h s y : Int} (hh : 1 ≤ h ∧ h ≤ 10) (hs : s ∈ maskL n h) (hy : y ∈ maskL n h) :
    dist (adjX (backL (maskL n h) h)) (idxI (maskL n h) s) (idxI (maskL n h) y) = some (farM h y s) := by
  obtain ⟨_, k, hk, hd⟩ := farM_eq hh hy hs
  have hw : ∀ j, Walk (adjX (backL (maskL n h) h)) j (idxI (maskL n h) s) (idxI (maskL n h) y) ↔ Walk (adjM h) j y s := fun j => by
    rw [← walk_rev hh hs hy, walk_iso' (L := maskL n h) (adj := adjG (maskL n h) h) (fun x _ z hz => (mem_adjG.1 hz).1) (fun x hx z => mem_backL hh hx) hs]
    constructor
    · rintro ⟨b, hb, he⟩
      have := idxI_inj (walk_mem (fun x _ z hz => (mem_adjG.1 hz).1) hs hb) hy he
      rw [← this]; exact hb
    · intro hb; exact ⟨y, hb, rfl⟩
  rw [hk]
  exact dist_of ⟨(hw k).2 hd.1, fun j hj => hd.2 j ((hw j).1 hj)⟩
theorem back_bd {n h : Int} (hX : ∀ a ∈ arcsL (maskL n h) h, (0 ≤ a.1 ∧ a.1 < (maskL n h).length) ∧ (0 ≤ a.2.2 ∧ a.2.2 < (maskL n h).length)) :
    ∀ a ∈ backL (maskL n h) h, (0 ≤ a.1 ∧ a.1 < (maskL n h).length) ∧ (0 ≤ a.2.2 ∧ a.2.2 < (maskL n h).length) := by
  intro a ha
  obtain ⟨x, hx, rfl⟩ := List.mem_map.1 ha
  exact ⟨(hX x hx).2, (hX x hx).1⟩
end Go.Proofs.Ytecdmnncfloagaa
