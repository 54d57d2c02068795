/- Plain: the merge of sort.SliceStable (rotation, bounds of the halves, what is glued). No program. -/
import Derived.Sort.LotA
import Derived.Sort.LotD2
namespace Go.Proofs.YtgcmnpimkfmccaaDoor
open Go.Sort
set_option linter.unusedVariables false
set_option linter.unusedSectionVars false
variable {α : Type} [Inhabited α] {lt : α → α → Bool}
/-- what a rotation gives: the parts a..m and m..b change places -/
def Rot (a m b : Nat) (d d' : Array α) : Prop :=
  (∀ x, x < a ∨ b ≤ x → d'[x]! = d[x]!) ∧ (∀ x, a ≤ x → x < a + (b - m) → d'[x]! = d[x + (m - a)]!) ∧ (∀ x, a + (b - m) ≤ x → x < b → d'[x]! = d[x - (b - m)]!)
theorem Rot.none {a m b : Nat} {d : Array α} (ham : a ≤ m) (hmb : m ≤ b) (h : a = m ∨ m = b) : Rot a m b d d := by
  refine ⟨fun _ _ => rfl, fun x h1 h2 => ?_, fun x h1 h2 => ?_⟩
  · rcases h with rfl | rfl
    · rw [Nat.sub_self, Nat.add_zero]
    · omega
  · rcases h with rfl | rfl
    · omega
    · rw [Nat.sub_self, Nat.sub_zero]
theorem swp_at (d : Array α) (i j : Nat) (hi : i < d.size) (hj : j < d.size) (x : Nat) : (swp d i j)[x]! = if x = j then d[i]! else if x = i then d[j]! else d[x]! := by
  by_cases h1 : x = j
  · subst h1; rw [if_pos rfl, swp_right d i x hj]
  · rw [if_neg h1]
    by_cases h2 : x = i
    · subst h2; rw [if_pos rfl, swp_left d x j hi h1]
    · rw [if_neg h2, swp_other d i j x h2 h1]
/-- swaps of a range: k pairs are done -/
def SwR (a b k : Nat) (d d' : Array α) : Prop :=
  ∀ x, d'[x]! = if a ≤ x ∧ x < a + k then d[x + (b - a)]! else if b ≤ x ∧ x < b + k then d[x - (b - a)]! else d[x]!
theorem SwR.zero (a b : Nat) (d : Array α) : SwR a b 0 d d := fun x => by rw [if_neg (by omega), if_neg (by omega)]
theorem SwR.step {a b k : Nat} {d d' : Array α} (h : SwR a b k d d') (hab : a + k < b) (hb : b + k < d'.size) : SwR a b (k + 1) d (swp d' (a + k) (b + k)) := fun x => by
  rw [swp_at d' (a + k) (b + k) (by omega) hb x]
  have h1 := h (a + k); have h2 := h (b + k); have h3 := h x
  rw [if_neg (by omega), if_neg (by omega)] at h1
  rw [if_neg (by omega), if_neg (by omega)] at h2
  by_cases e1 : x = b + k
  · subst e1
    rw [if_pos rfl, h1, if_neg (by omega), if_pos (by omega)]
    congr 1; omega
  · rw [if_neg e1]
    by_cases e2 : x = a + k
    · subst e2
      rw [if_pos rfl, h2, if_pos (by omega)]
      congr 1; omega
    · rw [if_neg e2, h3]
      by_cases c1 : a ≤ x ∧ x < a + k
      · rw [if_pos c1, if_pos (by omega)]
      · rw [if_neg c1, if_neg (c := a ≤ x ∧ x < a + (k + 1)) (by omega)]
        by_cases c2 : b ≤ x ∧ x < b + k
        · rw [if_pos c2, if_pos (by omega)]
        · rw [if_neg c2, if_neg (by omega)]
/-- a rotation under way: i and j are left of both parts; what is to come is the rotation of the window -/
def RotW (a m b i j : Nat) (d cur : Array α) : Prop := ∀ T : Array α, Rot (m - i) m (m + j) cur T → Rot a m b d T
theorem RotW.start {a m b : Nat} {d : Array α} (ham : a ≤ m) (hmb : m ≤ b) : RotW a m b (m - a) (b - m) d d := fun T h => by
  rwa [show m - (m - a) = a by omega, show m + (b - m) = b by omega] at h
theorem RotW.left {a m b i j : Nat} {d cur nxt : Array α} (h : RotW a m b i j d cur) (him : i ≤ m) (hij : j < i) (hs : SwR (m - i) m j cur nxt) : RotW a m b (i - j) j d nxt := fun T hT => h T (by
  obtain ⟨t1, t2, t3⟩ := hT
  refine ⟨fun x hx => ?_, fun x h1 h2 => ?_, fun x h1 h2 => ?_⟩
  · rw [t1 x (by omega), hs x, if_neg (by omega), if_neg (by omega)]
  · rw [t1 x (by omega), hs x, if_pos (by omega)]
  · by_cases c : x < m - (i - j) + (m + j - m)
    · rw [t2 x (by omega) c, hs]
      rw [if_neg (by omega)]
      by_cases c2 : m ≤ x + (m - (m - (i - j))) ∧ x + (m - (m - (i - j))) < m + j
      · rw [if_pos c2]; congr 1; omega
      · rw [if_neg c2]; exact absurd c2 (by omega)
    · rw [t3 x (by omega) (by omega), hs, if_neg (by omega)]
      by_cases c2 : m ≤ x - (m + j - m) ∧ x - (m + j - m) < m + j
      · omega
      · rw [if_neg c2])
theorem RotW.right {a m b i j : Nat} {d cur nxt : Array α} (h : RotW a m b i j d cur) (him : i ≤ m) (hij : i < j) (hs : SwR (m - i) (m + j - i) i cur nxt) : RotW a m b i (j - i) d nxt := fun T hT => h T (by
  obtain ⟨t1, t2, t3⟩ := hT
  refine ⟨fun x hx => ?_, fun x h1 h2 => ?_, fun x h1 h2 => ?_⟩
  · rw [t1 x (by omega), hs x, if_neg (by omega), if_neg (by omega)]
  · by_cases c : x < m - i + (m + (j - i) - m)
    · rw [t2 x (by omega) c, hs]
      by_cases c1 : m - i ≤ x + (m - (m - i)) ∧ x + (m - (m - i)) < m - i + i
      · omega
      · rw [if_neg c1, if_neg (by omega)]
    · rw [t3 x (by omega) (by omega), hs, if_pos (by omega)]
      congr 1; omega
  · rw [t1 x (by omega), hs x, if_neg (by omega), if_pos (by omega)]
    congr 1; omega)
theorem RotW.done {a m b i : Nat} {d cur nxt : Array α} (h : RotW a m b i i d cur) (him : i ≤ m) (hs : SwR (m - i) m i cur nxt) : Rot a m b d nxt := h nxt (by
  refine ⟨fun x hx => ?_, fun x h1 h2 => ?_, fun x h1 h2 => ?_⟩
  · rw [hs x, if_neg (by omega), if_neg (by omega)]
  · rw [hs x, if_pos (by omega)]
  · rw [hs x, if_neg (by omega), if_pos (by omega)]
    congr 1; omega)
/-- one element carried to the right: k - a places are done -/
theorem Rot.carry {a k : Nat} {d d' : Array α} (h : Rot a (a + 1) (k + 1) d d') (hak : a ≤ k) (hk : k + 1 < d'.size) : Rot a (a + 1) (k + 1 + 1) d (swp d' k (k + 1)) := by
  obtain ⟨t1, t2, t3⟩ := h
  refine ⟨fun x hx => ?_, fun x h1 h2 => ?_, fun x h1 h2 => ?_⟩
  · rw [swp_at d' k (k + 1) (by omega) hk x, if_neg (by omega), if_neg (by omega), t1 x (by omega)]
  · rw [swp_at d' k (k + 1) (by omega) hk x, if_neg (by omega)]
    by_cases e : x = k
    · rw [if_pos e, t1 (k + 1) (by omega)]; congr 1; omega
    · rw [if_neg e, t2 x h1 (by omega)]
  · rw [swp_at d' k (k + 1) (by omega) hk x, if_pos (by omega), t3 k (by omega) (by omega)]
    congr 1; omega
/-- .. and to the left -/
theorem Rot.carryL {k m : Nat} {d d' : Array α} (h : Rot (k + 1) m (m + 1) d d') (hkm : k + 1 ≤ m) (hk : m < d'.size) : Rot k m (m + 1) d (swp d' (k + 1) k) := by
  obtain ⟨t1, t2, t3⟩ := h
  refine ⟨fun x hx => ?_, fun x h1 h2 => ?_, fun x h1 h2 => ?_⟩
  · rw [swp_at d' (k + 1) k (by omega) (by omega) x, if_neg (by omega), if_neg (by omega), t1 x (by omega)]
  · rw [swp_at d' (k + 1) k (by omega) (by omega) x, if_pos (by omega), t2 (k + 1) (by omega) (by omega)]
    congr 1; omega
  · rw [swp_at d' (k + 1) k (by omega) (by omega) x, if_neg (by omega)]
    by_cases e : x = k + 1
    · rw [if_pos e, t1 k (by omega)]; congr 1; omega
    · rw [if_neg e, t3 x (by omega) h2]
theorem sorted_join {a m b : Nat} {d : Array α} (h1 : SortedIn lt a m d) (h2 : SortedIn lt m b d) (h : ∀ x y, a ≤ x → x < m → m ≤ y → y < b → lt d[y]! d[x]! = false) : SortedIn lt a b d := fun i j hi hij hj => by
  by_cases c1 : j < m
  · exact h1 i j hi hij c1
  · by_cases c2 : i < m
    · exact h i j hi c2 (by omega) hj
    · exact h2 i j (by omega) hij hj
theorem sorted_part {a b a' b' : Nat} {d : Array α} (h : SortedIn lt a b d) (ha : a ≤ a') (hb : b' ≤ b) : SortedIn lt a' b' d := fun i j hi hij hj => h i j (by omega) hij (by omega)
theorem sorted_le (hS : SWO lt) {a b x y : Nat} {d : Array α} (h : SortedIn lt a b d) (hx : a ≤ x) (hxy : x ≤ y) (hy : y < b) : lt d[y]! d[x]! = false := by
  by_cases e : x = y
  · subst e; exact hS.irrefl _
  · exact h x y hx (by omega) hy
/-- the bounds of a merge's halves behind its rotation -/
theorem halves (hS : SWO lt) {a s m en b : Nat} {d d1 : Array α} (h1 : a ≤ s) (h2 : s ≤ m) (h3 : m ≤ en) (h4 : en ≤ b) (hl : SortedIn lt a m d) (hr : SortedIn lt m b d)
    (hlo : a < s → en < b → lt d[en]! d[s - 1]! = false) (hhi : s < m → m < en → lt d[en - 1]! d[s]! = true) (hR : Rot s m en d d1) :
    SortedIn lt a s d1 ∧ SortedIn lt s (s + (en - m)) d1 ∧ SortedIn lt (s + (en - m)) en d1 ∧ SortedIn lt en b d1 ∧ ∀ x y, a ≤ x → x < s + (en - m) → s + (en - m) ≤ y → y < b → lt d1[y]! d1[x]! = false := by
  obtain ⟨t1, t2, t3⟩ := hR
  refine ⟨fun i j hi hij hj => ?_, fun i j hi hij hj => ?_, fun i j hi hij hj => ?_, fun i j hi hij hj => ?_, fun x y hx hxm hmy hy => ?_⟩
  · rw [t1 i (by omega), t1 j (by omega)]; exact hl i j hi hij (by omega)
  · rw [t2 i hi (by omega), t2 j (by omega) hj]; exact hr _ _ (by omega) (by omega) (by omega)
  · rw [t3 i hi (by omega), t3 j (by omega) hj]; exact hl _ _ (by omega) (by omega) (by omega)
  · rw [t1 i (by omega), t1 j (by omega)]; exact hr i j (by omega) hij hj
  · by_cases cx : x < s
    · rw [t1 x (by omega)]
      by_cases cy : y < en
      · rw [t3 y hmy cy]; exact hl _ _ hx (by omega) (by omega)
      · rw [t1 y (by omega)]
        have e1 : lt d[s - 1]! d[x]! = false := sorted_le hS hl hx (by omega) (by omega)
        have e2 : lt d[y]! d[en]! = false := sorted_le hS hr (by omega) (by omega) hy
        exact hS.ntrans _ _ _ e2 (hS.ntrans _ _ _ (hlo (by omega) (by omega)) e1)
    · rw [t2 x (by omega) hxm]
      by_cases cy : y < en
      · rw [t3 y hmy cy]
        have e1 : lt d[en - 1]! d[x + (m - s)]! = false := sorted_le hS hr (by omega) (by omega) (by omega)
        have e2 : lt d[y - (en - m)]! d[s]! = false := sorted_le hS hl (by omega) (by omega) (by omega)
        have e3 := hS.asymm (hhi (by omega) (by omega))
        exact hS.ntrans _ _ _ e2 (hS.ntrans _ _ _ e3 e1)
      · rw [t1 y (by omega)]; exact hr _ _ (by omega) (by omega) hy
/-- both halves sorted: the whole is -/
theorem merged {a c b : Nat} {d1 d2 d3 : Array α} (hac : a ≤ c) (hcb : c ≤ b) (hb : b ≤ d1.size) (h : ∀ x y, a ≤ x → x < c → c ≤ y → y < b → lt d1[y]! d1[x]! = false)
    (p1 : PermIn a c d1 d2) (s1 : SortedIn lt a c d2) (p2 : PermIn c b d2 d3) (s2 : SortedIn lt c b d3) : SortedIn lt a b d3 := by
  have k1 : ∀ x, a ≤ x → x < c → ∀ y, c ≤ y → y < b → lt d1[y]! d2[x]! = false := permIn_all d1 d2 a c (fun v => ∀ y, c ≤ y → y < b → lt d1[y]! v = false) (by omega) p1 (fun x hx hxc y hy hyb => h x y hx hxc hy hyb)
  have k2 : ∀ y, c ≤ y → y < b → ∀ x, a ≤ x → x < c → lt d3[y]! d2[x]! = false := permIn_all d2 d3 c b (fun v => ∀ x, a ≤ x → x < c → lt v d2[x]! = false) (by rw [p1.1]; exact hb) p2 (fun y hy hyb x hx hxc => by rw [p1.2.1 y (Or.inr hy)]; exact k1 x hx hxc y hy hyb)
  refine sorted_join (m := c) (fun i j hi hij hj => ?_) s2 (fun x y hx hxc hy hyb => ?_)
  · rw [p2.2.1 i (Or.inl (by omega)), p2.2.1 j (Or.inl hj)]; exact s1 i j hi hij hj
  · rw [p2.2.1 x (Or.inl hxc)]; exact k2 y hy hyb x hx hxc
/-- a merge of one element with a sorted part -/
theorem merged_one (hS : SWO lt) {a i b : Nat} {d d1 : Array α} (hai : a + 1 ≤ i) (hib : i ≤ b) (hr : SortedIn lt (a + 1) b d) (hlo : i < b → lt d[i]! d[a]! = false) (hhi : a + 1 < i → lt d[i - 1]! d[a]! = true) (hR : Rot a (a + 1) i d d1) : SortedIn lt a b d1 := by
  have hl : SortedIn lt a (a + 1) d := fun x y h1 h2 h3 => by omega
  obtain ⟨-, s2, -, s4, s5⟩ := halves hS (Nat.le_refl a) (Nat.le_succ a) hai hib hl hr (fun h => absurd h (Nat.lt_irrefl _)) (fun _ h => hhi h) hR
  obtain ⟨t1, t2, t3⟩ := hR
  refine sorted_join s2 (sorted_join (m := i) (fun x y h1 h2 h3 => by omega) s4 (fun x y h1 h2 h3 h4 => ?_)) s5
  rw [t3 x h1 h2, t1 y (Or.inr h3), show x - (i - (a + 1)) = a by omega]
  exact hS.ntrans _ _ _ (sorted_le hS hr (by omega) h3 h4) (hlo (by omega))
theorem merged_oneR (hS : SWO lt) {a i m : Nat} {d d1 : Array α} (hai : a ≤ i) (him : i ≤ m) (hl : SortedIn lt a m d) (hlo : a < i → lt d[m]! d[i - 1]! = false) (hhi : i < m → lt d[m]! d[i]! = true) (hR : Rot i m (m + 1) d d1) : SortedIn lt a (m + 1) d1 := by
  have hr : SortedIn lt m (m + 1) d := fun x y h1 h2 h3 => by omega
  obtain ⟨s1, s2, s3, -, s5⟩ := halves hS hai him (Nat.le_succ m) (Nat.le_refl _) hl hr (fun _ h => absurd h (Nat.lt_irrefl _)) (fun h _ => hhi h) hR
  obtain ⟨t1, t2, t3⟩ := hR
  refine sorted_join (sorted_join s1 s2 (fun x y h1 h2 h3 h4 => ?_)) s3 s5
  rw [t1 x (Or.inl h2), t2 y h3 h4, show y + (m - i) = m by omega]
  have e1 : lt d[i - 1]! d[x]! = false := sorted_le hS hl h1 (by omega) (by omega)
  exact hS.ntrans _ _ _ (hlo (by omega)) e1
end Go.Proofs.YtgcmnpimkfmccaaDoor
