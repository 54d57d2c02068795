/- Plain lemmas: the graphs of states are strongly connected; distances by masks and by indices are one. No program. -/
import Derived.Test.YtecdmnncfloagaaPlainD
namespace Go.Proofs.Ytecdmnncfloagaa
def adjM (h : Int) (x : Int) : List Int := (throwsL h x).map (nextM x)
theorem mem_adjM {h x y : Int} (hh : 0 ≤ h) : y ∈ adjM h x ↔ ∃ t, canB h x t = true ∧ (0 ≤ t ∧ t ≤ h) ∧ nextM x t = y := by
  unfold adjM
  rw [List.mem_map]
  constructor
  · rintro ⟨t, ht, rfl⟩
    have := (mem_throwsL hh).1 ht
    exact ⟨t, this.2, this.1, rfl⟩
  · rintro ⟨t, hc, hb, rfl⟩
    exact ⟨t, (mem_throwsL hh).2 ⟨hb, hc⟩, rfl⟩
theorem adjM_mem {n h x y : Int} (hh : 1 ≤ h ∧ h ≤ 10) (hx : x ∈ maskL n h) (hy : y ∈ adjM h x) : y ∈ maskL n h := by
  obtain ⟨t, hc, _, rfl⟩ := (mem_adjM (by omega)).1 hy
  exact next_mem hh hx hc
def groundM (m : Int) : Int := 2 ^ (popI m).toNat - 1
def okDown (h m : Int) : Bool := m == groundM m || (canB h m ((throwsL h m).headD 0) && decide (nextM m ((throwsL h m).headD 0) < m))
def okUp (h m : Int) : Bool := m == groundM m || (canB h (2 * (m - 2 ^ Nat.log2 m.toNat) + 1) ((Nat.log2 m.toNat : Int) + 1) && nextM (2 * (m - 2 ^ Nat.log2 m.toNat) + 1) ((Nat.log2 m.toNat : Int) + 1) == m && decide (2 * (m - 2 ^ Nat.log2 m.toNat) + 1 < m) && decide (0 ≤ 2 * (m - 2 ^ Nat.log2 m.toNat) + 1))
theorem checked : ((List.range 10).all fun h => (List.range (2 ^ (h + 1))).all fun m => okDown ((h : Int) + 1) (m : Int) && okUp ((h : Int) + 1) (m : Int)) = true := by decide +kernel
theorem ok_at {h m : Int} (hh : 1 ≤ h ∧ h ≤ 10) (hm : 0 ≤ m ∧ m < 2 ^ h.toNat) : okDown h m = true ∧ okUp h m = true := by
  obtain ⟨a, ha⟩ : ∃ a : Nat, h = (a : Int) + 1 := ⟨(h - 1).toNat, by omega⟩
  obtain ⟨b, rfl⟩ := Int.eq_ofNat_of_zero_le hm.1
  subst ha
  have hb : b < 2 ^ (a + 1) := by
    have h1 : ((a : Int) + 1).toNat = a + 1 := by omega
    have h2 := hm.2
    rw [h1] at h2
    have h3 : ((b : Nat) : Int) < ((2 ^ (a + 1) : Nat) : Int) := by simpa using h2
    exact_mod_cast h3
  have h1 := checked
  rw [List.all_eq_true] at h1
  have h2 := h1 a (List.mem_range.2 (by omega))
  rw [List.all_eq_true] at h2
  have h3 := h2 b (List.mem_range.2 hb)
  rw [Bool.and_eq_true] at h3
  exact h3
theorem can_le {h m t : Int} (hh : 1 ≤ h) (hc : canB h m t = true) : 0 ≤ t ∧ t ≤ h := by
  rcases canB_iff.1 hc with ⟨rfl, _⟩ | ⟨_, ⟨h1, h2⟩, _⟩ <;> omega
theorem down {h : Int} (hh : 1 ≤ h ∧ h ≤ 10) : ∀ (k : Nat) (m : Int), m.toNat = k → 0 ≤ m ∧ m < 2 ^ h.toNat → ∃ l, Walk (adjM h) l m (groundM m) := by
  intro k
  induction k using Nat.strongRecOn with
  | _ k ih =>
    intro m hk hm
    have := (ok_at hh hm).1
    unfold okDown at this
    rw [Bool.or_eq_true] at this
    rcases this with h1 | h1
    · exact ⟨0, beq_iff_eq.1 h1⟩
    · rw [Bool.and_eq_true] at h1
      obtain ⟨hc, hl⟩ := h1
      have hl := of_decide_eq_true hl
      have htb := can_le hh.1 hc
      have hb := next_bd hh hm htb.2
      obtain ⟨l, hw⟩ := ih (nextM m ((throwsL h m).headD 0)).toNat (by omega) _ rfl hb
      have hg : groundM (nextM m ((throwsL h m).headD 0)) = groundM m := by unfold groundM; rw [next_pop hh hm hc]
      rw [hg] at hw
      have h1 : Walk (adjM h) 1 m (nextM m ((throwsL h m).headD 0)) := ⟨m, rfl, (mem_adjM (by omega)).2 ⟨_, hc, htb, rfl⟩⟩
      exact ⟨1 + l, walk_trans h1 hw⟩
theorem up {h : Int} (hh : 1 ≤ h ∧ h ≤ 10) : ∀ (k : Nat) (m : Int), m.toNat = k → 0 ≤ m ∧ m < 2 ^ h.toNat → ∃ l, Walk (adjM h) l (groundM m) m := by
  intro k
  induction k using Nat.strongRecOn with
  | _ k ih =>
    intro m hk hm
    have := (ok_at hh hm).2
    unfold okUp at this
    rw [Bool.or_eq_true] at this
    rcases this with h1 | h1
    · exact ⟨0, by have := (beq_iff_eq.1 h1).symm; exact this⟩
    · generalize 2 * (m - 2 ^ Nat.log2 m.toNat) + 1 = p at h1
      generalize (Nat.log2 m.toNat : Int) + 1 = t at h1
      rw [Bool.and_eq_true, Bool.and_eq_true, Bool.and_eq_true] at h1
      obtain ⟨⟨⟨hc, he⟩, hl⟩, h0⟩ := h1
      have hl := of_decide_eq_true hl
      have h0 := of_decide_eq_true h0
      have he : nextM p t = m := by simpa using he
      have hp : 0 ≤ p ∧ p < 2 ^ h.toNat := by omega
      obtain ⟨l, hw⟩ := ih p.toNat (by omega) _ rfl hp
      have hg : groundM p = groundM m := by
        have := next_pop hh hp hc
        unfold groundM; rw [← this, he]
      rw [hg] at hw
      exact ⟨l + 1, p, hw, (mem_adjM (by omega)).2 ⟨t, hc, can_le hh.1 hc, he⟩⟩
theorem linked_walk {n h a b : Int} (hh : 1 ≤ h ∧ h ≤ 10) (ha : a ∈ maskL n h) (hb : b ∈ maskL n h) : ∃ l, Walk (adjM h) l a b := by
  have h1 := mem_maskL.1 ha
  have h2 := mem_maskL.1 hb
  obtain ⟨l1, w1⟩ := down hh _ a rfl h1.1
  obtain ⟨l2, w2⟩ := up hh _ b rfl h2.1
  have hg : groundM a = groundM b := by unfold groundM; rw [h1.2, h2.2]
  rw [hg] at w1
  exact ⟨l1 + l2, walk_trans w1 w2⟩
/-- the distance of two states of one graph, by their masks -/
noncomputable def farM (h a b : Int) : Int := (dist (adjM h) a b).getD 0
theorem farM_eq {n h a b : Int} (hh : 1 ≤ h ∧ h ≤ 10) (ha : a ∈ maskL n h) (hb : b ∈ maskL n h) : dist (adjM h) a b = some (farM h a b) ∧ ∃ k : Nat, farM h a b = k ∧ IsDist (adjM h) a b k := by
  obtain ⟨l, hw⟩ := linked_walk hh ha hb
  obtain ⟨k, _, hd⟩ := isDist_of_walk hw
  have he := dist_of hd
  unfold farM
  rw [he]
  exact ⟨rfl, k, rfl, hd⟩
/-- a walk stays in a closed list of nodes -/
theorem walk_mem {adj : Int → List Int} {L : List Int} (hc : ∀ x ∈ L, ∀ y ∈ adj x, y ∈ L) {a : Int} (ha : a ∈ L) : ∀ {k : Nat} {b : Int}, Walk adj k a b → b ∈ L := by
  intro k
  induction k with
  | zero => intro b hb; cases hb; exact ha
  | succ k ih =>
    rintro b ⟨c, h1, h2⟩
    exact hc c (ih h1) b h2
/-- the same graph under other names -/
theorem walk_iso {adj adj' : Int → List Int} {L : List Int} {φ : Int → Int} (hc : ∀ x ∈ L, ∀ y ∈ adj x, y ∈ L) (he : ∀ x ∈ L, adj' (φ x) = (adj x).map φ) {a : Int} (ha : a ∈ L) :
    ∀ {k : Nat} {z : Int}, Walk adj' k (φ a) z ↔ ∃ b, Walk adj k a b ∧ φ b = z := by
  intro k
  induction k with
  | zero =>
    intro z
    constructor
    · intro h; exact ⟨a, rfl, h⟩
    · rintro ⟨b, rfl, h⟩; exact h
  | succ k ih =>
    intro z
    constructor
    · rintro ⟨c, h1, h2⟩
      obtain ⟨b, hb, rfl⟩ := ih.1 h1
      rw [he b (walk_mem hc ha hb)] at h2
      obtain ⟨y, hy, rfl⟩ := List.mem_map.1 h2
      exact ⟨y, ⟨b, hb, hy⟩, rfl⟩
    · rintro ⟨y, ⟨b, hb, hy⟩, rfl⟩
      exact ⟨φ b, ih.2 ⟨b, hb, rfl⟩, by rw [he b (walk_mem hc ha hb)]; exact List.mem_map_of_mem hy⟩
theorem dist_iso {adj adj' : Int → List Int} {L : List Int} {φ : Int → Int} (hc : ∀ x ∈ L, ∀ y ∈ adj x, y ∈ L) (he : ∀ x ∈ L, adj' (φ x) = (adj x).map φ) (hi : ∀ x ∈ L, ∀ y ∈ L, φ x = φ y → x = y) {a b : Int} (ha : a ∈ L) (hb : b ∈ L) :
    dist adj' (φ a) (φ b) = dist adj a b := by
  have hw : ∀ k, Walk adj' k (φ a) (φ b) ↔ Walk adj k a b := fun k => by
    rw [walk_iso hc he ha]
    constructor
    · rintro ⟨c, h1, h2⟩
      have := hi c (walk_mem hc ha h1) b hb h2
      subst this; exact h1
    · intro h; exact ⟨b, h, rfl⟩
  by_cases hx : ∃ k, IsDist adj a b k
  · obtain ⟨k, hk⟩ := hx
    rw [dist_of hk, dist_of (k := k) ⟨(hw k).2 hk.1, fun j hj => hk.2 j ((hw j).1 hj)⟩]
  · have h1 : ∀ k, ¬ Walk adj k a b := fun k hk => by
      obtain ⟨l, _, hd⟩ := isDist_of_walk hk
      exact hx ⟨l, hd⟩
    rw [dist_none h1, dist_none (fun k hk => h1 k ((hw k).1 hk))]
/-- the nodes that follow node i by some arcs -/
def adjX (X : List (Int × Int × Int)) (i : Int) : List Int := (X.filter fun a => a.1 == i).map (·.2.2)
def idxI (L : List Int) (x : Int) : Int := ((idx L x : Nat) : Int)
theorem idxI_inj {L : List Int} {x y : Int} (hx : x ∈ L) (hy : y ∈ L) (h : idxI L x = idxI L y) : x = y := by
  unfold idxI at h
  have h1 : idx L x = idx L y := by omega
  have h2 := idx_get hx
  have h3 := idx_get hy
  rw [← h2, ← h3]
  simp only [h1]
theorem filter_arcsTo (L : List Int) (h : Int) (i : Nat) : ∀ k, (arcsTo L h k).filter (fun a => a.1 == (i : Int)) = if i < k then arcsAt L h i else [] := by
  intro k
  induction k with
  | zero => simp [arcsTo]
  | succ k ih =>
    rw [arcsTo_succ, List.filter_append, ih]
    by_cases hk : i = k
    · subst hk
      rw [if_neg (by omega), if_pos (by omega), List.nil_append, List.filter_eq_self.2]
      intro a ha
      obtain ⟨t, _, rfl⟩ := List.mem_map.1 ha
      simp
    · have h1 : (arcsAt L h k).filter (fun a => a.1 == (i : Int)) = [] := by
        rw [List.filter_eq_nil_iff]
        intro a ha
        obtain ⟨t, _, rfl⟩ := List.mem_map.1 ha
        simp only [beq_iff_eq]
        omega
      rw [h1, List.append_nil]
      by_cases hik : i < k
      · rw [if_pos hik, if_pos (by omega)]
      · rw [if_neg hik, if_neg (by omega)]
theorem adjX_arcs {L : List Int} {h x : Int} (hx : x ∈ L) : adjX (arcsL L h) (idxI L x) = (adjM h x).map (idxI L) := by
  have hl := idx_lt hx
  have hg := idx_get hx
  unfold adjX idxI arcsL
  rw [filter_arcsTo, if_pos hl]
  unfold arcsAt adjM
  have e : L.getD (idx L x) 0 = x := by rw [List.getD_eq_getElem?_getD, List.getElem?_eq_getElem hl, hg]; rfl
  rw [e, List.map_map, List.map_map]
  rfl
theorem dist_idx {n h a b : Int} (hh : 1 ≤ h ∧ h ≤ 10) (ha : a ∈ maskL n h) (hb : b ∈ maskL n h) :
    dist (adjX (arcsL (maskL n h) h)) (idxI (maskL n h) a) (idxI (maskL n h) b) = some (farM h a b) := by
  rw [dist_iso (L := maskL n h) (adj := adjM h) (fun x hx y hy => adjM_mem hh hx hy) (fun x hx => adjX_arcs hx) (fun x hx y hy he => idxI_inj hx hy he) ha hb]
  exact (farM_eq hh ha hb).1
theorem dist_path {adj : Int → List Int} {L : List Int} (hc : ∀ x ∈ L, ∀ y ∈ adj x, y ∈ L) {a : Int} (ha : a ∈ L) :
    ∀ (k : Nat) (b : Int), IsDist adj a b k → ∃ O : List Int, O.length = k + 1 ∧ O.Nodup ∧ ∀ y ∈ O, y ∈ L ∧ ∃ j, j ≤ k ∧ IsDist adj a y j := by
  intro k
  induction k with
  | zero =>
    intro b hb
    have e : a = b := hb.1
    subst e
    exact ⟨[a], rfl, by simp, fun y hy => by obtain rfl : y = a := by simpa using hy
                                             exact ⟨ha, 0, Nat.le_refl _, hb⟩⟩
  | succ k ih =>
    intro b hb
    obtain ⟨c, h1, h2⟩ := hb.1
    have hdc : IsDist adj a c k := ⟨h1, fun j hj => by have := hb.2 (j + 1) ⟨c, hj, h2⟩; omega⟩
    obtain ⟨O, hl, hn, hO⟩ := ih c hdc
    refine ⟨b :: O, by simp [hl], List.nodup_cons.2 ⟨fun hbO => ?_, hn⟩, fun y hy => ?_⟩
    · obtain ⟨_, j, hj, hd⟩ := hO b hbO
      have := isDist_unique hb hd
      omega
    · rcases List.mem_cons.1 hy with rfl | hy
      · exact ⟨walk_mem hc ha hb.1, k + 1, Nat.le_refl _, hb⟩
      · obtain ⟨h3, j, hj, hd⟩ := hO y hy
        exact ⟨h3, j, by omega, hd⟩
theorem dist_lt {adj : Int → List Int} {L : List Int} (hc : ∀ x ∈ L, ∀ y ∈ adj x, y ∈ L) {a b : Int} (ha : a ∈ L) {k : Nat} (hd : IsDist adj a b k) : k < L.length := by
  obtain ⟨O, hl, hn, hO⟩ := dist_path hc ha k b hd
  have := nodup_len hn (fun y hy => (hO y hy).1)
  omega
theorem farM_bd {n h a b : Int} (hh : 1 ≤ h ∧ h ≤ 10) (ha : a ∈ maskL n h) (hb : b ∈ maskL n h) : 0 ≤ farM h a b ∧ farM h a b < (maskL n h).length := by
  obtain ⟨_, k, hk, hd⟩ := farM_eq hh ha hb
  have := dist_lt (L := maskL n h) (fun x hx y hy => adjM_mem hh hx hy) ha hd
  omega
end Go.Proofs.Ytecdmnncfloagaa
