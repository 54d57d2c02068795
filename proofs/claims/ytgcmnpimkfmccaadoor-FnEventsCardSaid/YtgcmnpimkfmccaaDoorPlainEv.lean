/- PlainEv, PlainAl: laid one behind the other. -/
import Derived.Test.YtgcmnpimkfmccaaDoorSymP
import Derived.Test.YtgcmnpimkfmccaaDoorPlainK
section
namespace Go.Proofs.YtgcmnpimkfmccaaDoor
open Go.Sort
set_option linter.unusedVariables false
structure Ev where
  tick : Int
  thr : Bool
  hand : Int
  prop : Int
deriving Inhabited
/-- whether an event is before another one -/
def ltE (a b : Ev) : Bool := bif a.tick == b.tick then (bif a.hand == b.hand then !a.thr && b.thr else decide (a.hand < b.hand)) else decide (a.tick < b.tick)
theorem ltE_iff {a b : Ev} : ltE a b = true ↔ a.tick < b.tick ∨ (a.tick = b.tick ∧ (a.hand < b.hand ∨ (a.hand = b.hand ∧ a.thr = false ∧ b.thr = true))) := by
  unfold ltE
  by_cases h1 : a.tick = b.tick
  · rw [h1, beq_self_eq_true, cond_true]
    by_cases h2 : a.hand = b.hand
    · rw [h2, beq_self_eq_true, cond_true]
      cases a.thr <;> cases b.thr <;> simp
    · rw [beq_eq_false_iff_ne.2 h2, cond_false, decide_eq_true_iff]
      constructor
      · intro h; exact Or.inr ⟨rfl, Or.inl h⟩
      · rintro (h | ⟨-, h | ⟨h, -⟩⟩)
        · omega
        · exact h
        · exact absurd h h2
  · rw [beq_eq_false_iff_ne.2 h1, cond_false, decide_eq_true_iff]
    constructor
    · exact fun h => Or.inl h
    · rintro (h | ⟨h, -⟩)
      · exact h
      · exact absurd h h1
theorem ltE_no {a b : Ev} : ltE a b = false ↔ b.tick < a.tick ∨ (a.tick = b.tick ∧ (b.hand < a.hand ∨ (a.hand = b.hand ∧ (a.thr = true ∨ b.thr = false)))) := by
  rw [← Bool.not_eq_true, ltE_iff]
  constructor
  · intro h
    by_cases h1 : b.tick < a.tick
    · exact Or.inl h1
    · by_cases h2 : a.tick < b.tick
      · exact absurd (Or.inl h2) h
      · refine Or.inr ⟨by omega, ?_⟩
        by_cases h3 : b.hand < a.hand
        · exact Or.inl h3
        · by_cases h4 : a.hand < b.hand
          · exact absurd (Or.inr ⟨by omega, Or.inl h4⟩) h
          · refine Or.inr ⟨by omega, ?_⟩
            cases ha : a.thr
            · cases hb : b.thr
              · exact Or.inr rfl
              · exact absurd (Or.inr ⟨by omega, Or.inr ⟨by omega, ha, hb⟩⟩) h
            · exact Or.inl rfl
  · rintro (h | ⟨h, h2 | ⟨h2, h3⟩⟩) (k | ⟨k, k2 | ⟨k2, k3, k4⟩⟩) <;> first | omega | (rcases h3 with h3 | h3 <;> simp_all)
theorem swoE : SWO ltE where
  irrefl x := by rw [ltE_no]; refine Or.inr ⟨rfl, Or.inr ⟨rfl, ?_⟩⟩; cases x.thr <;> simp
  trans x y z h1 h2 := by
    rw [ltE_iff] at h1 h2 ⊢
    rcases h1 with h1 | ⟨h1, h3⟩
    · exact Or.inl (by rcases h2 with h2 | ⟨h2, -⟩ <;> omega)
    · rcases h2 with h2 | ⟨h2, h4⟩
      · exact Or.inl (by omega)
      · refine Or.inr ⟨by omega, ?_⟩
        rcases h3 with h3 | ⟨h3, h5, h6⟩
        · rcases h4 with h4 | ⟨h4, -⟩ <;> exact Or.inl (by omega)
        · rcases h4 with h4 | ⟨h4, h7, h8⟩
          · exact Or.inl (by omega)
          · rw [h6] at h7; cases h7
  ntrans x y z h1 h2 := by
    rw [ltE_no] at h1 h2 ⊢
    rcases h1 with h1 | ⟨h1, h3⟩
    · exact Or.inl (by rcases h2 with h2 | ⟨h2, -⟩ <;> omega)
    · rcases h2 with h2 | ⟨h2, h4⟩
      · exact Or.inl (by omega)
      · refine Or.inr ⟨by omega, ?_⟩
        rcases h3 with h3 | ⟨h3, h5⟩
        · rcases h4 with h4 | ⟨h4, -⟩ <;> exact Or.inl (by omega)
        · rcases h4 with h4 | ⟨h4, h6⟩
          · exact Or.inl (by omega)
          · refine Or.inr ⟨by omega, ?_⟩
            rcases h5 with h5 | h5
            · exact Or.inl h5
            · rcases h6 with h6 | h6
              · rw [h5] at h6; cases h6
              · exact Or.inr h6
def SoE (l : List Ev) : Prop := l.Pairwise (fun a b => ltE b a = false)
theorem sorted_one : ∀ {l k : List Ev}, SoE l → SoE k → l.Perm k → (∀ a ∈ l, ∀ b ∈ l, ltE a b = false → ltE b a = false → a = b) → l = k
  | [], k, _, _, hp, _ => by rw [List.nil_perm.1 hp]
  | a :: as, [], _, _, hp, _ => absurd (List.perm_nil.1 hp) (by simp)
  | a :: as, b :: bs, hl, hk, hp, hu => by
    have ha := List.pairwise_cons.1 hl
    have hb := List.pairwise_cons.1 hk
    have e : a = b := by
      have m1 : a ∈ b :: bs := hp.mem_iff.1 (List.mem_cons_self ..)
      have m2 : b ∈ a :: as := hp.mem_iff.2 (List.mem_cons_self ..)
      rcases List.mem_cons.1 m1 with h | h
      · exact h
      · rcases List.mem_cons.1 m2 with h' | h'
        · exact h'.symm
        · exact hu a (List.mem_cons_self ..) b m2 (hb.1 a h) (ha.1 b h')
    subst e
    rw [sorted_one ha.2 hb.2 (List.Perm.cons_inv hp) (fun x hx y hy => hu x (List.mem_cons_of_mem _ hx) y (List.mem_cons_of_mem _ hy))]
theorem soE_arr {d : Array Ev} (h : SortedIn ltE 0 d.size d) : SoE d.toList := by
  unfold SoE
  rw [List.pairwise_iff_getElem]
  intro i j hi hj hij
  have := h i j (Nat.zero_le _) hij (by simpa using hj)
  rw [Array.length_toList] at hi hj
  rw [getElem!_pos d i hi, getElem!_pos d j hj] at this
  simpa using this
/-- an event is put in its place -/
def putK (l : List Ev) (e : Ev) : Nat → Nat
  | 0 => 0
  | k + 1 => bif ltE e (l.getD k default) then putK l e k else k + 1
theorem putK_le (l : List Ev) (e : Ev) : ∀ k, putK l e k ≤ k
  | 0 => Nat.le_refl _
  | k + 1 => by
    unfold putK
    cases ltE e (l.getD k default)
    · exact Nat.le_refl _
    · exact Nat.le_succ_of_le (putK_le l e k)
def putE (l : List Ev) (e : Ev) : List Ev := l.take (putK l e l.length) ++ [e] ++ l.drop (putK l e l.length)
theorem putE_perm (l : List Ev) (e : Ev) : (putE l e).Perm (l ++ [e]) := by
  unfold putE
  rw [List.append_assoc]
  refine (List.Perm.append_left _ (List.perm_append_comm)).trans ?_
  rw [← List.append_assoc, List.take_append_drop]
theorem putK_lo {l : List Ev} {e : Ev} : ∀ {k : Nat}, 0 < putK l e k → ltE e (l.getD (putK l e k - 1) default) = false
  | 0, h => absurd h (Nat.lt_irrefl _)
  | k + 1, h => by
    unfold putK at h ⊢
    cases hc : ltE e (l.getD k default)
    · rw [cond_false]; exact hc
    · rw [hc, cond_true] at h; rw [cond_true]; exact putK_lo h
theorem putK_hi {l : List Ev} {e : Ev} : ∀ {k : Nat} (i : Nat), putK l e k ≤ i → i < k → ltE e (l.getD i default) = true
  | 0, i, _, h => absurd h (Nat.not_lt_zero _)
  | k + 1, i, h1, h2 => by
    unfold putK at h1
    cases hc : ltE e (l.getD k default)
    · rw [hc, cond_false] at h1; omega
    · rw [hc, cond_true] at h1
      by_cases e1 : i = k
      · subst e1; exact hc
      · exact putK_hi i h1 (by omega)
theorem putE_so {l : List Ev} {e : Ev} (h : SoE l) : SoE (putE l e) := by
  unfold putE SoE
  have hg : ∀ i (hi : i < l.length), l.getD i default = l[i] := fun i hi => by simp [List.getD, hi]
  have h' := List.pairwise_iff_getElem.1 h
  have hk := putK_le l e l.length
  rw [List.pairwise_append, List.pairwise_append]
  refine ⟨⟨List.Pairwise.sublist (List.take_sublist _ _) h, List.pairwise_singleton _ _, ?_⟩, List.Pairwise.sublist (List.drop_sublist _ _) h, ?_⟩
  · intro a ha b hb
    rw [List.mem_singleton] at hb
    subst hb
    obtain ⟨i, hi, rfl⟩ := List.getElem_of_mem ha
    rw [List.length_take] at hi
    rw [List.getElem_take]
    have h1 : 0 < putK l b l.length := by omega
    have h2 := putK_lo h1
    rw [hg _ (by omega)] at h2
    by_cases e1 : i = putK l b l.length - 1
    · subst e1; exact h2
    · exact swoE.ntrans _ _ _ h2 (h' i (putK l b l.length - 1) (by omega) (by omega) (by omega))
  · intro a ha b hb
    obtain ⟨j, hj, rfl⟩ := List.getElem_of_mem hb
    rw [List.length_drop] at hj
    rw [List.getElem_drop]
    rcases List.mem_append.1 ha with ha | ha
    · obtain ⟨i, hi, rfl⟩ := List.getElem_of_mem ha
      rw [List.length_take] at hi
      rw [List.getElem_take]
      exact h' i _ (by omega) (by omega) (by omega)
    · rw [List.mem_singleton] at ha
      subst ha
      have h3 := putK_hi (l := l) (e := a) (k := l.length) (putK l a l.length + j) (by omega) (by omega)
      rw [hg _ (by omega)] at h3
      exact swoE.asymm h3
variable {p : List Int}
/-- the events of a beat -/
def evB (p : List Int) (B D from_ to_ : Int) (b : Nat) : List Ev :=
  bif atP p b == 0 then [] else
    (bif decide (from_ ≤ (b : Int) * B ∧ (b : Int) * B ≤ to_) then [⟨(b : Int) * B, true, (b : Int) % 2, ordA p b⟩] else []) ++
    (bif decide (from_ ≤ (b : Int) * B - D ∧ (b : Int) * B - D ≤ to_) then [⟨(b : Int) * B - D, false, (b : Int) % 2, ordA p b⟩] else [])
def evL (p : List Int) (B D from_ to_ : Int) : Nat → List Ev
  | 0 => []
  | n + 1 => evL p B D from_ to_ n ++ evB p B D from_ to_ n
def putL (l : List Ev) : List Ev → List Ev
  | [] => l
  | e :: es => putL (putE l e) es
def evS (p : List Int) (B D from_ to_ : Int) : Nat → List Ev
  | 0 => []
  | n + 1 => putL (evS p B D from_ to_ n) (evB p B D from_ to_ n)
theorem putL_perm : ∀ (l es : List Ev), (putL l es).Perm (l ++ es)
  | l, [] => by rw [List.append_nil]; exact List.Perm.refl _
  | l, e :: es => (putL_perm (putE l e) es).trans (by
      have := List.Perm.append_right es (putE_perm l e)
      rwa [List.append_assoc] at this)
theorem putL_so : ∀ {l es : List Ev}, SoE l → SoE (putL l es)
  | l, [], h => h
  | l, e :: es, h => putL_so (l := putE l e) (es := es) (putE_so h)
theorem evS_perm (p : List Int) (B D f t : Int) : ∀ n, (evS p B D f t n).Perm (evL p B D f t n)
  | 0 => List.Perm.refl _
  | n + 1 => (putL_perm _ _).trans (List.Perm.append_right _ (evS_perm p B D f t n))
theorem evS_so (p : List Int) (B D f t : Int) : ∀ n, SoE (evS p B D f t n)
  | 0 => List.Pairwise.nil
  | n + 1 => putL_so (evS_so p B D f t n)
/-- what an event of the list is -/
theorem evB_mem {B D f t : Int} {b : Nat} {x : Ev} (h : x ∈ evB p B D f t b) : atP p b ≠ 0 ∧ x.hand = (b : Int) % 2 ∧ x.prop = ordA p b ∧ x.tick = (if x.thr = true then (b : Int) * B else (b : Int) * B - D) ∧ f ≤ x.tick ∧ x.tick ≤ t := by
  unfold evB at h
  cases h0 : (atP p b == 0)
  · rw [h0, cond_false] at h
    refine ⟨beq_eq_false_iff_ne.1 h0, ?_⟩
    rcases List.mem_append.1 h with h | h
    · cases hc : decide (f ≤ (b : Int) * B ∧ (b : Int) * B ≤ t)
      · rw [hc, cond_false] at h; cases h
      · rw [hc, cond_true, List.mem_singleton] at h
        subst h
        have := of_decide_eq_true hc
        exact ⟨rfl, rfl, by simp, this.1, this.2⟩
    · cases hc : decide (f ≤ (b : Int) * B - D ∧ (b : Int) * B - D ≤ t)
      · rw [hc, cond_false] at h; cases h
      · rw [hc, cond_true, List.mem_singleton] at h
        subst h
        have := of_decide_eq_true hc
        exact ⟨rfl, rfl, by simp, this.1, this.2⟩
  · rw [h0, cond_true] at h; cases h
theorem evL_mem {B D f t : Int} {x : Ev} : ∀ {n : Nat}, x ∈ evL p B D f t n ↔ ∃ b, b < n ∧ x ∈ evB p B D f t b
  | 0 => by simp [evL]
  | n + 1 => by
    rw [evL, List.mem_append, evL_mem (n := n)]
    constructor
    · rintro (⟨b, hb, hx⟩ | hx)
      · exact ⟨b, by omega, hx⟩
      · exact ⟨n, by omega, hx⟩
    · rintro ⟨b, hb, hx⟩
      by_cases e : b = n
      · subst e; exact Or.inr hx
      · exact Or.inl ⟨b, by omega, hx⟩
theorem mul_inj' {B : Int} (hB : 0 < B) {a b : Nat} (h : (a : Int) * B = (b : Int) * B) : a = b := by
  have := Int.eq_of_mul_eq_mul_right (by omega) h
  omega
theorem ev_one {B D f t : Int} {n : Nat} (hB : 0 < B) : ∀ a ∈ evL p B D f t n, ∀ b ∈ evL p B D f t n, ltE a b = false → ltE b a = false → a = b := by
  intro x hx y hy h1 h2
  obtain ⟨b, -, hb⟩ := evL_mem.1 hx
  obtain ⟨c, -, hc⟩ := evL_mem.1 hy
  obtain ⟨-, b1, b2, b3, -⟩ := evB_mem hb
  obtain ⟨-, c1, c2, c3, -⟩ := evB_mem hc
  have ht : x.tick = y.tick ∧ x.thr = y.thr := by
    rw [ltE_no] at h1 h2
    rcases h1 with h1 | ⟨h1, h3⟩
    · rcases h2 with h2 | ⟨h2, h4⟩ <;> omega
    · rcases h2 with h2 | ⟨h2, h4⟩
      · omega
      · refine ⟨h1, ?_⟩
        rcases h3 with h3 | ⟨h3, h5⟩
        · rcases h4 with h4 | ⟨h4, -⟩ <;> omega
        · rcases h4 with h4 | ⟨h4, h6⟩
          · omega
          · rcases h5 with h5 | h5
            · rcases h6 with h6 | h6
              · rw [h5, h6]
              · rw [h5] at h6; cases h6
            · rcases h6 with h6 | h6
              · rw [h5] at h6; cases h6
              · rw [h5, h6]
  have hbc : b = c := by
    rw [ht.1, ht.2, c3] at b3
    by_cases e : y.thr = true
    · rw [if_pos e, if_pos e] at b3; exact mul_inj' hB b3.symm
    · rw [if_neg e, if_neg e] at b3; exact mul_inj' hB (by omega)
  subst hbc
  obtain ⟨x1, x2, x3, x4⟩ := x
  obtain ⟨y1, y2, y3, y4⟩ := y
  simp only at *
  rw [ht.1, ht.2, b1, b2, c1, c2]
/-- the two ways give one list -/
theorem ev_same {B D f t : Int} {n : Nat} (hB : 0 < B) {d : Array Ev} (hd : d.toList.Perm (evL p B D f t n)) (hs : SortedIn ltE 0 d.size d) : d.toList = evS p B D f t n :=
  sorted_one (soE_arr hs) (evS_so p B D f t n) (hd.trans (evS_perm p B D f t n).symm) (fun a ha b hb => ev_one hB a (hd.mem_iff.1 ha) b (hd.mem_iff.1 hb))
end Go.Proofs.YtgcmnpimkfmccaaDoor
end
section
namespace Go.Proofs.YtgcmnpimkfmccaaDoor
open Go.Sort
set_option linter.unusedVariables false
variable {p : List Int} {B D f t : Int}
theorem evB_thr {b : Nat} (h : atP p b ≠ 0) (h1 : f ≤ (b : Int) * B) (h2 : (b : Int) * B ≤ t) : (⟨(b : Int) * B, true, (b : Int) % 2, ordA p b⟩ : Ev) ∈ evB p B D f t b := by
  unfold evB
  rw [beq_eq_false_iff_ne.2 h, cond_false, decide_eq_true (And.intro h1 h2), cond_true]
  exact List.mem_append_left _ (List.mem_singleton.2 rfl)
theorem evB_cat {b : Nat} (h : atP p b ≠ 0) (h1 : f ≤ (b : Int) * B - D) (h2 : (b : Int) * B - D ≤ t) : (⟨(b : Int) * B - D, false, (b : Int) % 2, ordA p b⟩ : Ev) ∈ evB p B D f t b := by
  unfold evB
  rw [beq_eq_false_iff_ne.2 h, cond_false, decide_eq_true (And.intro h1 h2), cond_true]
  exact List.mem_append_right _ (List.mem_singleton.2 rfl)
theorem land_gap (hv : validP p = true) (hfit : ∀ x ∈ p, 0 < x → 1 ≤ x * B - D) {b : Nat} (hb : atP p b ≠ 0) : frP p b * B + D + 1 ≤ (b : Int) * B := by
  have hlt := fr_lt hv hb
  have hn := (validP_iff.1 hv).1
  have hm : b - frP p b ∈ p := by
    have e : (b : Int) - frP p b = p.getD (liN p ((b : Int) % (p.length : Int))) 0 := by unfold frP; omega
    rw [e]
    have hl : liN p ((b : Int) % (p.length : Int)) < p.length := (li_ok hv (mod_bd hv b)).1
    rw [List.getD_eq_getElem?_getD, List.getElem?_eq_getElem hl]
    exact List.getElem_mem hl
  have h1 := hfit _ hm (by omega)
  have e : ((b : Int) - frP p b) * B = (b : Int) * B - frP p b * B := Int.sub_mul _ _ _
  omega
theorem ev_between (hv : validP p = true) (hB : 0 < B) (hD : 1 ≤ D) (hfit : ∀ x ∈ p, 0 < x → 1 ≤ x * B - D) {n : Nat} {x y : Ev} (hx : x ∈ evL p B D f t n) (hy : y ∈ evL p B D f t n) (hne : x ≠ y) (hp : x.prop = y.prop) (hk : x.thr = y.thr) (hle : x.tick ≤ y.tick) :
    ∃ z ∈ evL p B D f t n, z.prop = x.prop ∧ z.thr = !x.thr ∧ x.tick < z.tick ∧ z.tick < y.tick := by
  obtain ⟨c, hc, hxc⟩ := evL_mem.1 hx
  obtain ⟨b, hb, hyb⟩ := evL_mem.1 hy
  obtain ⟨x0, x1, x2, x3, x4, x5⟩ := evB_mem hxc
  obtain ⟨y0, y1, y2, y3, y4, y5⟩ := evB_mem hyb
  have hcb : c < b := by
    rcases Nat.lt_trichotomy c b with h | h | h
    · exact h
    · exfalso
      apply hne
      subst h
      obtain ⟨a1, a2, a3, a4⟩ := x
      obtain ⟨b1, b2, b3, b4⟩ := y
      simp only at *
      subst hk
      rw [x3, y3, x1, y1, x2, y2]
    · exfalso
      have hm : (b : Int) * B < (c : Int) * B := Int.mul_lt_mul_of_pos_right (by omega) hB
      rw [x3, y3, ← hk] at hle
      split at hle <;> omega
  have hs := ord_same hv y0 x0 hcb (by rw [← x2, ← y2]; exact hp.symm)
  have hg := land_gap hv hfit y0
  have hm : (c : Int) * B ≤ frP p b * B := Int.mul_le_mul_of_nonneg_right hs (by omega)
  cases hxt : x.thr
  · rw [hxt] at hk
    rw [hxt, if_neg (by decide)] at x3
    rw [← hk, if_neg (by decide)] at y3
    exact ⟨_, evL_mem.2 ⟨c, hc, evB_thr x0 (by omega) (by omega)⟩, by rw [x2], rfl, by show x.tick < (c : Int) * B; omega, by show (c : Int) * B < y.tick; omega⟩
  · rw [hxt] at hk
    rw [hxt, if_pos rfl] at x3
    rw [← hk, if_pos rfl] at y3
    exact ⟨_, evL_mem.2 ⟨b, hb, evB_cat y0 (by omega) (by omega)⟩, by rw [hp, y2], rfl, by show x.tick < (b : Int) * B - D; omega, by show (b : Int) * B - D < y.tick; omega⟩
theorem evB_nodup (hD : 1 ≤ D) (b : Nat) : (evB p B D f t b).Nodup := by
  unfold evB
  cases (atP p b == 0)
  · rw [cond_false]
    cases decide (f ≤ (b : Int) * B ∧ (b : Int) * B ≤ t) <;> cases decide (f ≤ (b : Int) * B - D ∧ (b : Int) * B - D ≤ t) <;> simp
  · exact List.nodup_nil
theorem evL_nodup (hB : 0 < B) (hD : 1 ≤ D) : ∀ n, (evL p B D f t n).Nodup
  | 0 => List.nodup_nil
  | n + 1 => by
    rw [evL, List.nodup_append]
    refine ⟨evL_nodup hB hD n, evB_nodup hD n, fun x hx y hy hxy => ?_⟩
    subst hxy
    obtain ⟨c, hc, hxc⟩ := evL_mem.1 hx
    obtain ⟨-, -, -, x3, -⟩ := evB_mem hxc
    obtain ⟨-, -, -, y3, -⟩ := evB_mem hy
    have hm : (c : Int) * B < (n : Int) * B := Int.mul_lt_mul_of_pos_right (by omega) hB
    rw [x3] at y3
    split at y3 <;> omega
/-- the kind of an event, and the kind of a prop's last event -/
def kindE (e : Ev) : Int := if e.thr = true then 2 else 1
def lastK (q : Int) (l : List Ev) : Int := l.foldl (fun a e => if e.prop = q then kindE e else a) 0
theorem lastK_snoc (q : Int) (l : List Ev) (e : Ev) : lastK q (l ++ [e]) = if e.prop = q then kindE e else lastK q l := by unfold lastK; rw [List.foldl_append]; rfl
/-- where the last event of a prop stands -/
theorem lastK_take {q : Int} (L : List Ev) : ∀ n, n ≤ L.length → lastK q (L.take n) = 0 ∨ ∃ i, ∃ h : i < L.length, i < n ∧ L[i].prop = q ∧ kindE L[i] = lastK q (L.take n) ∧ ∀ j (hj : j < L.length), i < j → j < n → L[j].prop ≠ q
  | 0, _ => Or.inl rfl
  | n + 1, hn => by
    have e : L.take (n + 1) = L.take n ++ [L[n]] := by rw [List.take_add_one, List.getElem?_eq_getElem (by omega)]; rfl
    rw [e, lastK_snoc]
    by_cases he : L[n].prop = q
    · rw [if_pos he]
      exact Or.inr ⟨n, by omega, by omega, he, rfl, fun j hj h1 h2 => by omega⟩
    · rw [if_neg he]
      rcases lastK_take L n (by omega) with h | ⟨i, hi, h0, h1, h2, h3⟩
      · exact Or.inl h
      · refine Or.inr ⟨i, hi, by omega, h1, h2, fun j hj h4 h5 => ?_⟩
        by_cases hjn : j < n
        · exact h3 j hj h4 hjn
        · have : j = n := by omega
          subst this
          exact he
theorem kindE_pos (e : Ev) : kindE e ≠ 0 := by unfold kindE; split <;> decide
theorem so_tick {S : List Ev} (h : SoE S) {i j : Nat} (hi : i < S.length) (hj : j < S.length) (hij : i < j) : S[i].tick ≤ S[j].tick := by
  have := List.pairwise_iff_getElem.1 h i j hi hj hij
  rw [ltE_no] at this
  omega
theorem ev_turn (hv : validP p = true) (hB : 0 < B) (hD : 1 ≤ D) (hfit : ∀ x ∈ p, 0 < x → 1 ≤ x * B - D) {n i : Nat} (hi : i < (evS p B D f t n).length) :
    lastK (evS p B D f t n)[i].prop ((evS p B D f t n).take i) ≠ kindE (evS p B D f t n)[i] := by
  intro hk
  have hS := evS_so p B D f t n
  have hP := evS_perm p B D f t n
  have hN : (evS p B D f t n).Nodup := hP.nodup_iff.2 (evL_nodup hB hD n)
  generalize evS p B D f t n = S at *
  rcases lastK_take (q := S[i].prop) S i (by omega) with h | ⟨j, hj, h0, h1, h2, h3⟩
  · rw [h] at hk; exact kindE_pos _ hk.symm
  · have hthr : S[j].thr = S[i].thr := by
      rw [hk] at h2
      unfold kindE at h2
      cases ha : S[j].thr <;> cases hb : S[i].thr <;> simp_all
    have hne : S[j] ≠ S[i] := fun e => (List.pairwise_iff_getElem.1 hN j i hj hi h0) e
    obtain ⟨z, hz, z1, -, z3, z4⟩ := ev_between hv hB hD hfit (hP.mem_iff.1 (List.getElem_mem hj)) (hP.mem_iff.1 (List.getElem_mem hi)) hne h1 hthr (so_tick hS hj hi h0)
    obtain ⟨k, hk', rfl⟩ := List.getElem_of_mem (hP.mem_iff.2 hz)
    have hjk : j < k := by
      rcases Nat.lt_trichotomy j k with c | c | c
      · exact c
      · subst c; omega
      · have := so_tick hS hk' hj c; omega
    have hki : k < i := by
      rcases Nat.lt_trichotomy k i with c | c | c
      · exact c
      · subst c; omega
      · have := so_tick hS hi hk' c; omega
    exact h3 k hk' hjk hki (by rw [z1, h1])
end Go.Proofs.YtgcmnpimkfmccaaDoor
end
