/- The plain law of walks through states: a walk that ends where it began is a pattern, with as many props as the state has. -/
import Derived.Test.YtpcaaohdlcoplaaPlainSt
namespace Go.Proofs.Ytpcaaohdlcoplaa
theorem mk_bd {n h m : Int} (hh : 1 ≤ h ∧ h ≤ 10) (hm : m ∈ maskL n h) : 0 ≤ m ∧ m < 1024 := by
  have h1 := (mem_maskL.1 hm).1
  have h2 := pow_le_1024 h.toNat (by omega)
  omega
/-- throws that are possible one behind the other, from one state to another -/
def Wk (h : Int) : Int → List Int → Int → Prop
  | m, [], m' => m = m'
  | m, t :: ts, m' => canB h m t = true ∧ Wk h (nextM m t) ts m'
theorem Wk.append {h : Int} : ∀ {xs : List Int} {m m1 m2 : Int} {ys : List Int}, Wk h m xs m1 → Wk h m1 ys m2 → Wk h m (xs ++ ys) m2
  | [], m, m1, m2, ys, h1, h2 => by have e : m = m1 := h1; subst e; exact h2
  | t :: ts, m, m1, m2, ys, h1, h2 => ⟨h1.1, Wk.append h1.2 h2⟩
theorem Wk.mem {n h : Int} (hh : 1 ≤ h ∧ h ≤ 10) : ∀ {xs : List Int} {m m' : Int}, m ∈ maskL n h → Wk h m xs m' → m' ∈ maskL n h
  | [], m, m', hm, h1 => by have e : m = m' := h1; subst e; exact hm
  | t :: ts, m, m', hm, h1 => Wk.mem hh (next_mem hh hm h1.1) h1.2
/-- the state behind the first k throws -/
def rnM (m : Int) (xs : List Int) (k : Nat) : Int := (xs.take k).foldl nextM m
theorem rnM_succ (m : Int) (xs : List Int) (k : Nat) (hk : k < xs.length) : rnM m xs (k + 1) = nextM (rnM m xs k) (xs.getD k 0) := by
  have e : xs.getD k 0 = xs[k] := by simp [List.getD, hk]
  unfold rnM
  rw [e, List.take_add_one, List.getElem?_eq_getElem hk, Option.toList_some, List.foldl_append]
  rfl
theorem Wk.at {h : Int} : ∀ {xs : List Int} {m m' : Int}, Wk h m xs m' → (∀ k, k < xs.length → canB h (rnM m xs k) (xs.getD k 0) = true) ∧ rnM m xs xs.length = m'
  | [], m, m', h1 => ⟨fun k hk => by simp at hk, h1⟩
  | t :: ts, m, m', h1 => by
    obtain ⟨h2, h3⟩ := Wk.at h1.2
    refine ⟨fun k hk => ?_, ?_⟩
    · cases k with
      | zero => exact h1.1
      | succ k => exact h2 k (by simpa using hk)
    · exact h3
theorem wk_short {n h b : Int} (hh : 1 ≤ h ∧ h ≤ 10) (hb : b ∈ maskL n h) : ∀ (k : Nat) {a : Int}, a ∈ maskL n h → (farM h a b).toNat = k → Wk h a (shortL h a b) b := by
  intro k
  induction k with
  | zero =>
    intro a ha hk
    by_cases e : a = b
    · subst e; rw [shortL_self]; exact rfl
    · have h1 := shortL_step hh ha hb e
      have h2 := shortL_len h a b
      rw [h1, hk] at h2
      simp at h2
  | succ k ih =>
    intro a ha hk
    by_cases e : a = b
    · subst e; rw [shortL_self]; exact rfl
    · rw [shortL_step hh ha hb e]
      obtain ⟨h1, h2⟩ := pick_some hh ha hb e
      have h3 := (mem_throwsL (by omega)).1 h1
      exact ⟨h3.2, ih (next_mem hh ha h3.2) (by rw [h2]; omega)⟩
theorem short_wk {n h a b : Int} (hh : 1 ≤ h ∧ h ≤ 10) (ha : a ∈ maskL n h) (hb : b ∈ maskL n h) : Wk h a (shortL h a b) b := wk_short hh hb _ ha rfl
theorem short_nil {n h a b : Int} (hh : 1 ≤ h ∧ h ≤ 10) (ha : a ∈ maskL n h) (hb : b ∈ maskL n h) : (shortL h a b).length = 0 ↔ a = b := by
  constructor
  · intro h1
    by_cases e : a = b
    · exact e
    · rw [shortL_step hh ha hb e] at h1; simp at h1
  · intro e; subst e; rw [shortL_self]; rfl
theorem stM_add (p : List Int) (b h : Int) : stM p (b + (p.length : Int)) h = stM p b h := by
  have h1 : ∀ t : Nat, stB p (b + (p.length : Int)) t = stB p b t := fun t => by
    unfold stB
    rw [show b + (p.length : Int) + (t : Int) = b + (t : Int) + (p.length : Int) by omega, Int.add_emod_right]
  have h2 : ∀ k, stTo p (b + (p.length : Int)) k = stTo p b k := fun k => by
    induction k with
    | zero => rfl
    | succ k ih => rw [stTo_succ, stTo_succ, ih, h1]
  exact h2 _
/-- a pattern leads from its first state back to it -/
theorem wk_pat {p : List Int} {h : Int} (hv : validP p = true) (hh : 1 ≤ h ∧ h ≤ 10) (hp : ∀ x ∈ p, x ≤ h) : Wk h (stM p 0 h) p (stM p 0 h) := by
  have hn := (validP_iff.1 hv).1.2
  have key : ∀ j, j ≤ p.length → Wk h (stM p ((p.length - j : Nat) : Int) h) (p.drop (p.length - j)) (stM p (p.length : Int) h) := by
    intro j
    induction j with
    | zero =>
      intro _
      rw [Nat.sub_zero, List.drop_length]
      exact rfl
    | succ j ih =>
      intro hj
      have hlt : p.length - (j + 1) < p.length := by omega
      have e : p.length - j = p.length - (j + 1) + 1 := by omega
      obtain ⟨h1, h2⟩ := step_st hv hh hp ((p.length - (j + 1) : Nat) : Int)
      have ht : tAt p ((p.length - (j + 1) : Nat) : Int) = p[p.length - (j + 1)] := by
        unfold tAt
        rw [Int.emod_eq_of_lt (by omega) (by omega)]
        simp [List.getD, hlt]
      rw [ht] at h1 h2
      rw [List.drop_eq_getElem_cons hlt]
      refine ⟨h1, ?_⟩
      rw [h2, ← e]
      have := ih (by omega)
      rw [show ((p.length - (j + 1) : Nat) : Int) + 1 = ((p.length - j : Nat) : Int) by omega]
      exact this
  have h1 := key p.length (Nat.le_refl _)
  rw [Nat.sub_self, List.drop_zero] at h1
  have h2 := stM_add p 0 h
  rw [show (0 : Int) + (p.length : Int) = (p.length : Int) by omega] at h2
  rw [h2] at h1
  exact h1
theorem stM_high {p : List Int} {h : Int} (hv : validP p = true) (hh : 1 ≤ h ∧ h ≤ 10) (hp : ∀ x ∈ p, x ≤ h) (b : Int) : stM p b 10 = stM p b h := by
  have hn := (validP_iff.1 hv).1.2
  refine eq_of_bits (stM_bd p b 10).1 (stM_bd p b h).1 fun t => ?_
  have h1 : bitB (stM p b 10) (t : Int) = (decide (t < (10 : Int).toNat) && stB p b t) := bit_st p b _ t
  have h2 : bitB (stM p b h) (t : Int) = (decide (t < h.toNat) && stB p b t) := bit_st p b _ t
  rw [h1, h2]
  by_cases ht : t < h.toNat
  · rw [decide_eq_true ht, decide_eq_true (show t < (10 : Int).toNat by omega)]
  · have hs : stB p b t = false := by
      unfold stB
      have := hp _ (at_mem (li_ok hv (r := (b + (t : Int)) % (p.length : Int)) ⟨Int.emod_nonneg _ (by omega), Int.emod_lt_of_pos _ (by omega)⟩).1)
      exact decide_eq_false (by omega)
    rw [hs, Bool.and_false, Bool.and_false]
/-- the sum of the places of the bits -/
def phiM (m : Int) : Int := ((List.range 10).map fun t : Nat => if bitB m (t : Int) = true then (t : Int) else 0).sum
theorem phi_all : ((List.range 1024).all fun m => (List.range 11).all fun t => !canB 10 (m : Int) (t : Int) || decide (phiM (nextM (m : Int) (t : Int)) + popI (m : Int) = phiM (m : Int) + (t : Int))) = true := by decide +kernel
theorem phi_step {h m t : Int} (hh : 1 ≤ h ∧ h ≤ 10) (hm : 0 ≤ m ∧ m < 1024) (hc : canB h m t = true) : phiM (nextM m t) + popI m = phiM m + t ∧ (0 ≤ t ∧ t ≤ h) := by
  have ht : 0 ≤ t ∧ t ≤ h := by
    rcases canB_iff.1 hc with ⟨h1, _⟩ | ⟨_, h1, _⟩ <;> omega
  have hc10 : canB 10 m t = true := by
    rcases canB_iff.1 hc with h1 | ⟨h1, h2, h3, h4⟩
    · exact canB_iff.2 (Or.inl h1)
    · exact canB_iff.2 (Or.inr ⟨h1, by omega, h3, h4⟩)
  obtain ⟨a, rfl⟩ := Int.eq_ofNat_of_zero_le hm.1
  obtain ⟨b, rfl⟩ := Int.eq_ofNat_of_zero_le ht.1
  have h1 := List.all_eq_true.1 phi_all a (List.mem_range.2 (by omega))
  have h2 := List.all_eq_true.1 h1 b (List.mem_range.2 (by omega))
  rw [hc10] at h2
  exact ⟨by simpa using h2, ht⟩
section
variable {n h m : Int} {xs : List Int}
theorem rn_mem (hh : 1 ≤ h ∧ h ≤ 10) (hm : m ∈ maskL n h) (hw : ∀ k, k < xs.length → canB h (rnM m xs k) (xs.getD k 0) = true) : ∀ k, k ≤ xs.length → rnM m xs k ∈ maskL n h := by
  intro k
  induction k with
  | zero => intro _; exact hm
  | succ k ih =>
    intro hk
    rw [rnM_succ m xs k (by omega)]
    exact next_mem hh (ih (by omega)) (hw k (by omega))
theorem phi_run (hh : 1 ≤ h ∧ h ≤ 10) (hm : m ∈ maskL n h) (hw : ∀ k, k < xs.length → canB h (rnM m xs k) (xs.getD k 0) = true) : ∀ k, k ≤ xs.length → phiM (rnM m xs k) + (k : Int) * n = phiM m + (xs.take k).sum := by
  intro k
  induction k with
  | zero => intro _; simp [rnM]
  | succ k ih =>
    intro hk
    have h1 := ih (by omega)
    have hmk := rn_mem hh hm hw k (by omega)
    have h2 := (phi_step hh (mk_bd hh hmk) (hw k (by omega))).1
    rw [(mem_maskL.1 hmk).2] at h2
    rw [rnM_succ m xs k (by omega)]
    have e : xs.getD k 0 = xs[k] := by simp [List.getD, show k < xs.length by omega]
    rw [take_snoc _ _ (by omega), List.sum_append]
    rw [e] at h2
    rw [e]
    have e2 : ((k + 1 : Nat) : Int) * n = (k : Int) * n + n := by rw [Int.natCast_add, Int.add_mul]; simp
    rw [e2]
    simp only [List.sum_cons, List.sum_nil]
    omega
/-- the throws of a walk in a ring, for ever -/
theorem ring_fly (hh : 1 ≤ h ∧ h ≤ 10) (hm : m ∈ maskL n h) (hw : Wk h m xs m) (hx : 0 < xs.length) (u : Nat) : ∀ j : Nat, (j : Int) < xs.getD (u % xs.length) 0 →
    bitB (rnM m xs ((u + 1 + j) % xs.length)) (((xs.getD (u % xs.length) 0).toNat - 1 - j : Nat) : Int) = true := by
  obtain ⟨hc, hend⟩ := hw.at
  have hstep : ∀ v : Nat, rnM m xs ((v + 1) % xs.length) = nextM (rnM m xs (v % xs.length)) (xs.getD (v % xs.length) 0) := fun v => by
    have hv := Nat.mod_lt v hx
    rw [← rnM_succ m xs (v % xs.length) hv]
    by_cases e : v % xs.length + 1 = xs.length
    · have : (v + 1) % xs.length = 0 := by
        rw [Nat.add_mod, ← Nat.mod_mod v, Nat.mod_mod, show v % xs.length = xs.length - 1 by omega]
        by_cases e1 : xs.length = 1
        · rw [e1]
        · rw [Nat.mod_eq_of_lt (show 1 < xs.length by omega), show xs.length - 1 + 1 = xs.length by omega, Nat.mod_self]
      rw [this, e, hend]; rfl
    · have : (v + 1) % xs.length = v % xs.length + 1 := by
        have h1 := Nat.div_add_mod v xs.length
        rw [show v + 1 = (v % xs.length + 1) + xs.length * (v / xs.length) by omega, Nat.add_mul_mod_self_left, Nat.mod_eq_of_lt (by omega)]
      rw [this]
  intro j
  induction j with
  | zero =>
    intro hj
    rw [Nat.add_zero, hstep u]
    have hmu := rn_mem hh hm hc (u % xs.length) (Nat.le_of_lt (Nat.mod_lt u hx))
    rw [bit_next (mk_bd hh hmu).1, decide_eq_true (show 0 < xs.getD (u % xs.length) 0 by omega), decide_eq_true (show (xs.getD (u % xs.length) 0 - 1).toNat = (xs.getD (u % xs.length) 0).toNat - 1 - 0 by omega)]
    simp
  | succ j ih =>
    intro hj
    have h1 := ih (by omega)
    rw [show u + 1 + (j + 1) = u + 1 + j + 1 by omega, hstep (u + 1 + j)]
    have hmu := rn_mem hh hm hc ((u + 1 + j) % xs.length) (Nat.le_of_lt (Nat.mod_lt _ hx))
    rw [bit_next (mk_bd hh hmu).1, show (xs.getD (u % xs.length) 0).toNat - 1 - (j + 1) + 1 = (xs.getD (u % xs.length) 0).toNat - 1 - j by omega, h1, Bool.true_or]
theorem ring_free (hh : 1 ≤ h ∧ h ≤ 10) (hm : m ∈ maskL n h) (hw : Wk h m xs m) (hx : 0 < xs.length) {u v : Nat} (huv : u < v) : ((u : Int) + xs.getD (u % xs.length) 0) ≠ (v : Int) + xs.getD (v % xs.length) 0 := by
  intro he
  obtain ⟨hc, -⟩ := hw.at
  have hcv := hc (v % xs.length) (Nat.mod_lt v hx)
  have hcu := hc (u % xs.length) (Nat.mod_lt u hx)
  have hmu := rn_mem hh hm hc (u % xs.length) (Nat.le_of_lt (Nat.mod_lt u hx))
  have hmv := rn_mem hh hm hc (v % xs.length) (Nat.le_of_lt (Nat.mod_lt v hx))
  have hu0 := (phi_step hh (mk_bd hh hmu) hcu).2
  have hv0 := (phi_step hh (mk_bd hh hmv) hcv).2
  have h1 := ring_fly hh hm hw hx u (v - u - 1) (by omega)
  rw [show u + 1 + (v - u - 1) = v by omega] at h1
  have e : (((xs.getD (u % xs.length) 0).toNat - 1 - (v - u - 1) : Nat) : Int) = xs.getD (v % xs.length) 0 := by omega
  rw [e] at h1
  rcases canB_iff.1 hcv with ⟨h2, h3⟩ | ⟨_, _, _, h3⟩
  · rw [h2, h3] at h1; cases h1
  · rw [h3] at h1; cases h1
/-- a walk in a ring is a pattern -/
theorem ring_ok (hh : 1 ≤ h ∧ h ≤ 10) (hm : m ∈ maskL n h) (hw : Wk h m xs m) (hx : 1 ≤ xs.length ∧ xs.length ≤ 12) : validP xs = true ∧ propsP xs = n := by
  obtain ⟨hc, hend⟩ := hw.at
  have hx0 : 0 < xs.length := by omega
  refine ⟨validP_iff.2 ⟨⟨fun x hx2 => ?_, hx⟩, fun i hi k hk he => ?_⟩, ?_⟩
  · obtain ⟨i, hi, rfl⟩ := List.mem_iff_getElem.1 hx2
    have e : xs.getD i 0 = xs[i] := by simp [List.getD, hi]
    have hmi := rn_mem hh hm hc i (by omega)
    have := (phi_step hh (mk_bd hh hmi) (hc i hi)).2
    rw [e] at this
    omega
  · have hl : (landL xs).length = xs.length := by simp [landL]
    rw [hl] at hi
    unfold landL at he
    rw [landTo_get _ _ _ hi, landTo_get _ _ _ (by omega)] at he
    unfold landAt at he
    obtain ⟨c, hcc⟩ := (emod_iff _ _ _).1 he
    have hik : i % xs.length = i := Nat.mod_eq_of_lt hi
    have hkk : k % xs.length = k := Nat.mod_eq_of_lt (by omega)
    rcases Int.lt_or_le c 0 with hc0 | hc0
    · obtain ⟨d, hd⟩ : ∃ d : Nat, c = -(d : Int) := ⟨(-c).toNat, by omega⟩
      have hm1 : (k + xs.length * d) % xs.length = k := by rw [Nat.add_mul_mod_self_left, hkk]
      have hdm : (xs.length : Int) * c = -((xs.length * d : Nat) : Int) := by rw [hd, Int.mul_neg]; simp
      rw [hdm] at hcc
      rcases Nat.lt_trichotomy (k + xs.length * d) i with h1 | h1 | h1
      · have := ring_free hh hm hw hx0 h1
        rw [hm1, hik] at this
        exact this (by omega)
      · rw [← h1, Nat.add_mul_mod_self_left, hkk] at hik; omega
      · have := ring_free hh hm hw hx0 h1
        rw [hm1, hik] at this
        exact this (by omega)
    · obtain ⟨d, hd⟩ : ∃ d : Nat, c = (d : Int) := ⟨c.toNat, by omega⟩
      have hm1 : (i + xs.length * d) % xs.length = i := by rw [Nat.add_mul_mod_self_left, hik]
      have hdm : (xs.length : Int) * c = ((xs.length * d : Nat) : Int) := by rw [hd]; simp
      rw [hdm] at hcc
      have h1 : k < i + xs.length * d := by omega
      have := ring_free hh hm hw hx0 h1
      rw [hm1, hkk] at this
      exact this (by omega)
  · have h1 := phi_run hh hm hc xs.length (Nat.le_refl _)
    rw [hend, List.take_length] at h1
    have h2 : xs.sum = n * (xs.length : Int) := by rw [Int.mul_comm]; omega
    unfold propsP
    rw [h2, Int.mul_ediv_cancel _ (by omega)]
end
end Go.Proofs.Ytpcaaohdlcoplaa
