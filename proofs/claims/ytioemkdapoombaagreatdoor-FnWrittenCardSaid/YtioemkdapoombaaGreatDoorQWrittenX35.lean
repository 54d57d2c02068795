/- The law WrittenX: what it rests on, part 35 of 46. -/
import Derived.Test.YtioemkdapoombaaGreatDoorQWrittenX06
import Derived.Test.YtioemkdapoombaaGreatDoorCards
import Derived.Test.YtioemkdapoombaaGreatDoorTie
import Derived.LaidMore
import Derived.Stop.Joined
import Derived.Stop.LaidErr
import Derived.Deep.RegionHeld3
import Derived.Test.YtioemkdapoombaaGreatDoorRows
import Derived.ProofKit
import Derived.OpenShut
import Derived.ChangeOld
import Derived.Lib.SmallJoins
import Derived.Laws.ResultCell
import Derived.Deep.Slices
import Derived.Test.YtioemkdapoombaaGreatDoorQWrittenX02
import Derived.Test.YtioemkdapoombaaGreatDoorQWrittenX05
import Derived.Test.YtioemkdapoombaaGreatDoorQWrittenX22
import Derived.Test.YtioemkdapoombaaGreatDoorQWrittenX10
import Derived.Test.YtioemkdapoombaaGreatDoorQWrittenX17
section
section
set_option linter.unusedVariables false
namespace Go.Proofs.YtioemkdapoombaaGreatDoor
theorem bit_zero (t : Nat) : bitB 0 (t : Int) = false := by simp [bitB]
theorem bit_st (p : List Int) (b : Int) : ∀ (k t : Nat), bitB (stTo p b k) (t : Int) = (decide (t < k) && stB p b t)
  | 0, t => by rw [show stTo p b 0 = 0 from rfl, bit_zero]; simp
  | k + 1, t => by
    have ih := bit_st p b k t
    have hb := (stTo_bd p b k).1
    rw [stTo_succ]
    cases hs : stB p b k
    · rw [cond_false, ih]
      by_cases e : t = k
      · subst e; rw [hs]; simp
      · have : (t < k + 1) ↔ (t < k) := by omega
        simp only [this]
    · rw [cond_true, bit_or, show (((stTo p b k).toNat : Nat) : Int) = stTo p b k by omega, ih]
      by_cases e : t = k
      · subst e; rw [hs]; simp
      · have h1 : (t < k + 1) ↔ (t < k) := by omega
        have h2 : ¬ k = t := fun h => e h.symm
        simp only [h1, h2, decide_false, Bool.or_false]
theorem bit_next {m t : Int} (hm : 0 ≤ m) (j : Nat) : bitB (nextM m t) (j : Int) = (bitB m ((j + 1 : Nat) : Int) || (decide (0 < t) && decide ((t - 1).toNat = j))) := by
  unfold nextM
  have hm2 : 0 ≤ m / 2 := Int.ediv_nonneg hm (by decide)
  by_cases ht : 0 < t
  · rw [decide_eq_true ht, cond_true, bit_or, show (((m / 2).toNat : Nat) : Int) = m / 2 by omega, bit_half m j hm, Bool.true_and]
  · rw [decide_eq_false ht, cond_false, bit_half m j hm, Bool.false_and, Bool.or_false]
theorem eq_of_bits {a b : Int} (ha : 0 ≤ a) (hb : 0 ≤ b) (h : ∀ t : Nat, bitB a (t : Int) = bitB b (t : Int)) : a = b := by
  obtain ⟨x, rfl⟩ := Int.eq_ofNat_of_zero_le ha
  obtain ⟨y, rfl⟩ := Int.eq_ofNat_of_zero_le hb
  congr 1
  apply Nat.eq_of_testBit_eq
  intro i
  have := h i
  rwa [bit_nat, bit_nat] at this
/-- the throw at a beat -/
def tAt (p : List Int) (b : Int) : Int := p.getD (b % (p.length : Int)).toNat 0
section
variable {p : List Int}
theorem tAt_idx (hv : validP p = true) (b : Int) : (b % (p.length : Int)).toNat < p.length ∧ (((b % (p.length : Int)).toNat : Nat) : Int) = b % (p.length : Int) := by
  have h := (validP_iff.1 hv).1.2
  have h1 := Int.emod_nonneg b (show (p.length : Int) ≠ 0 by omega)
  have h2 := Int.emod_lt_of_pos b (show (0 : Int) < p.length by omega)
  omega
theorem tAt_bd (hv : validP p = true) (b : Int) : 0 ≤ tAt p b ∧ tAt p b ≤ 15 := (validP_iff.1 hv).1.1 _ (at_mem (tAt_idx hv b).1)
/-- the throw at beat b lands at b + t -/
theorem li_at (hv : validP p = true) (b : Int) : liN p ((b + tAt p b) % (p.length : Int)) = (b % (p.length : Int)).toNat := by
  obtain ⟨h1, h2⟩ := tAt_idx hv b
  refine li_uniq hv h1 ?_
  unfold landAt
  rw [h2]
  show (b % (p.length : Int) + tAt p b) % (p.length : Int) = _
  rw [Int.add_emod, Int.emod_emod_of_dvd b (Int.dvd_refl _), ← Int.add_emod]
/-- what lands at c with the height P was thrown at c - P -/
theorem li_back (hv : validP p = true) {c P : Int} (hP : p.getD (liN p (c % (p.length : Int))) 0 = P) : tAt p (c - P) = P := by
  have hn := (validP_iff.1 hv).1.2
  have hr : 0 ≤ c % (p.length : Int) ∧ c % (p.length : Int) < p.length := ⟨Int.emod_nonneg _ (by omega), Int.emod_lt_of_pos _ (by omega)⟩
  obtain ⟨h1, h2⟩ := li_ok hv hr
  unfold landAt at h2
  rw [hP] at h2
  have e : (c - P) % (p.length : Int) = ((liN p (c % (p.length : Int)) : Nat) : Int) := by
    have h3 : ((liN p (c % (p.length : Int)) : Nat) : Int) % (p.length : Int) = ((liN p (c % (p.length : Int)) : Nat) : Int) := Int.emod_eq_of_lt (by omega) (by omega)
    rw [← h3]
    have h4 := (emod_iff _ _ _).1 h2
    refine (emod_iff _ _ _).2 ?_
    have h5 := Int.dvd_neg.2 h4
    have e2 : -(((liN p (c % (p.length : Int)) : Nat) : Int) + P - c) = c - P - ((liN p (c % (p.length : Int)) : Nat) : Int) := by omega
    rwa [e2] at h5
  unfold tAt
  rw [e]
  simpa using hP
theorem step_st (hv : validP p = true) {h : Int} (hh : 1 ≤ h ∧ h ≤ 10) (hp : ∀ x ∈ p, x ≤ h) (b : Int) : canB h (stM p b h) (tAt p b) = true ∧ nextM (stM p b h) (tAt p b) = stM p (b + 1) h := by
  obtain ⟨hi, -⟩ := tAt_idx hv b
  have ht := tAt_bd hv b
  have hth : tAt p b ≤ h := hp _ (at_mem hi)
  have hbm := stM_bd p b h
  have hbit : ∀ t : Nat, bitB (stM p b h) (t : Int) = (decide (t < h.toNat) && stB p b t) := fun t => bit_st p b h.toNat t
  have hbit1 : ∀ t : Nat, bitB (stM p (b + 1) h) (t : Int) = (decide (t < h.toNat) && stB p (b + 1) t) := fun t => bit_st p (b + 1) h.toNat t
  have hli := li_at hv b
  have hb0 : bitB (stM p b h) 0 = decide (tAt p b ≠ 0) := by
    have h1 := hbit 0
    rw [show ((0 : Nat) : Int) = 0 from rfl] at h1
    rw [h1, decide_eq_true (show 0 < h.toNat by omega), Bool.true_and]
    unfold stB
    rw [show b + ((0 : Nat) : Int) = b by omega]
    by_cases h0 : tAt p b = 0
    · rw [h0, show b + 0 = b by omega] at hli
      rw [hli]
      have : p.getD (b % (p.length : Int)).toNat 0 = 0 := h0
      rw [this, h0]; simp
    · obtain ⟨P, hP⟩ : ∃ P, p.getD (liN p (b % (p.length : Int))) 0 = P := ⟨_, rfl⟩
      have h2 := li_back hv hP
      have hPb : 0 ≤ P := by rw [← hP]; exact ((validP_iff.1 hv).1.1 _ (at_mem (li_ok hv ⟨Int.emod_nonneg _ (by omega), Int.emod_lt_of_pos _ (by omega)⟩).1)).1
      have hP0 : P ≠ 0 := fun e => by rw [e, show b - 0 = b by omega] at h2; exact h0 h2
      rw [hP, decide_eq_true h0, decide_eq_true (show ((0 : Nat) : Int) < P by omega)]
  refine ⟨?_, ?_⟩
  · rw [canB_iff]
    by_cases h0 : tAt p b = 0
    · exact Or.inl ⟨h0, by rw [hb0, h0]; rfl⟩
    · refine Or.inr ⟨h0, by omega, by rw [hb0]; exact decide_eq_true h0, ?_⟩
      obtain ⟨T, hT⟩ : ∃ T : Nat, tAt p b = (T : Int) := ⟨(tAt p b).toNat, by omega⟩
      rw [hT, hbit]
      unfold stB
      rw [hT] at hli
      rw [hli]
      have : p.getD (b % (p.length : Int)).toNat 0 = (T : Int) := hT
      rw [this]; simp
  · have hnb := next_bd hh hbm hth
    refine eq_of_bits hnb.1 (stM_bd p (b + 1) h).1 fun j => ?_
    rw [bit_next hbm.1, hbit1, hbit]
    have hcj : b + 1 + (j : Int) = b + ((j + 1 : Nat) : Int) := by omega
    have hsb : stB p (b + 1) j = decide ((j : Int) < p.getD (liN p ((b + ((j + 1 : Nat) : Int)) % (p.length : Int))) 0) := by unfold stB; rw [hcj]
    have hsb2 : stB p b (j + 1) = decide (((j + 1 : Nat) : Int) < p.getD (liN p ((b + ((j + 1 : Nat) : Int)) % (p.length : Int))) 0) := rfl
    obtain ⟨P, hP⟩ : ∃ P, p.getD (liN p ((b + ((j + 1 : Nat) : Int)) % (p.length : Int))) 0 = P := ⟨_, rfl⟩
    have hn := (validP_iff.1 hv).1.2
    have hPh : P ≤ h := by rw [← hP]; exact hp _ (at_mem (li_ok hv ⟨Int.emod_nonneg _ (by omega), Int.emod_lt_of_pos _ (by omega)⟩).1)
    rw [hsb, hsb2, hP]
    have key : P = ((j + 1 : Nat) : Int) ↔ tAt p b = ((j + 1 : Nat) : Int) := by
      constructor
      · intro e
        have h2 := li_back hv hP
        rw [e, show b + ((j + 1 : Nat) : Int) - ((j + 1 : Nat) : Int) = b by omega] at h2
        exact h2
      · intro e
        rw [e] at hli
        rw [hli] at hP
        rw [← hP]; exact e
    by_cases hk : P = ((j + 1 : Nat) : Int)
    · have h3 := key.1 hk
      rw [decide_eq_true (show 0 < tAt p b by omega), decide_eq_true (show (tAt p b - 1).toNat = j by omega), decide_eq_true (show j < h.toNat by omega), decide_eq_true (show (j : Int) < P by omega)]
      simp
    · have h3 : ¬ tAt p b = ((j + 1 : Nat) : Int) := fun e => hk (key.2 e)
      have h4 : (decide (0 < tAt p b) && decide ((tAt p b - 1).toNat = j)) = false := by
        by_cases h5 : 0 < tAt p b
        · rw [decide_eq_false (show ¬ (tAt p b - 1).toNat = j by omega), Bool.and_false]
        · rw [decide_eq_false h5, Bool.false_and]
      rw [h4, Bool.or_false]
      have e1 : ((j : Int) < P) ↔ (((j + 1 : Nat) : Int) < P) := by omega
      by_cases h6 : ((j + 1 : Nat) : Int) < P
      · rw [decide_eq_true h6, decide_eq_true (e1.2 h6), decide_eq_true (show j + 1 < h.toNat by omega), decide_eq_true (show j < h.toNat by omega)]
      · rw [decide_eq_false h6, decide_eq_false (fun e => h6 (e1.1 e)), Bool.and_false, Bool.and_false]
end
end Go.Proofs.YtioemkdapoombaaGreatDoor
end
section
set_option linter.unusedVariables false
namespace Go.Proofs.YtioemkdapoombaaGreatDoor
/-- throws that are possible one behind the other, from one state to another -/
def Wk (h : Int) : Int → List Int → Int → Prop
  | m, [], m' => m = m'
  | m, t :: ts, m' => canB h m t = true ∧ Wk h (nextM m t) ts m'
theorem Wk.append {h : Int} : ∀ {xs : List Int} {m m1 m2 : Int} {ys : List Int}, Wk h m xs m1 → Wk h m1 ys m2 → Wk h m (xs ++ ys) m2
  | [], m, m1, m2, ys, h1, h2 => by have e : m = m1 := h1; subst e; exact h2
  | t :: ts, m, m1, m2, ys, h1, h2 => ⟨h1.1, Wk.append h1.2 h2⟩
theorem Wk.mem {n h : Int} (hh : 1 ≤ h ∧ h ≤ 10) : ∀ {xs : List Int} {m m' : Int}, m ∈ maskL n h → Wk h m xs m' → m' ∈ maskL n h
  | [], m, m', hm, h1 => by have e : m = m' := h1; subst e; exact hm
  | t :: ts, m, m', hm, h1 => Wk.mem hh (next_mem hh hm h1.1) h1.2
/-- the state behind the first k throws -/
def rnM (m : Int) (xs : List Int) (k : Nat) : Int := (xs.take k).foldl nextM m
theorem Wk.at {h : Int} : ∀ {xs : List Int} {m m' : Int}, Wk h m xs m' → (∀ k, k < xs.length → canB h (rnM m xs k) (xs.getD k 0) = true) ∧ rnM m xs xs.length = m'
  | [], m, m', h1 => ⟨fun k hk => by simp at hk, h1⟩
  | t :: ts, m, m', h1 => by
    obtain ⟨h2, h3⟩ := Wk.at h1.2
    refine ⟨fun k hk => ?_, ?_⟩
    · cases k with
      | zero => exact h1.1
      | succ k => exact h2 k (by simpa using hk)
    · exact h3
theorem wk_short {n h b : Int} (hh : 1 ≤ h ∧ h ≤ 10) (hb : b ∈ maskL n h) : ∀ (k : Nat) {a : Int}, a ∈ maskL n h → (farM h a b).toNat = k → Wk h a (shortL h a b) b := by
  intro k
  induction k with
  | zero =>
    intro a ha hk
    by_cases e : a = b
    · subst e; rw [shortL_self]; exact rfl
    · have h1 := shortL_step hh ha hb e
      have h2 := shortL_len h a b
      rw [h1, hk] at h2
      simp at h2
  | succ k ih =>
    intro a ha hk
    by_cases e : a = b
    · subst e; rw [shortL_self]; exact rfl
    · rw [shortL_step hh ha hb e]
      obtain ⟨h1, h2⟩ := pick_some hh ha hb e
      have h3 := (mem_throwsL (by omega)).1 h1
      exact ⟨h3.2, ih (next_mem hh ha h3.2) (by rw [h2]; omega)⟩
theorem short_wk {n h a b : Int} (hh : 1 ≤ h ∧ h ≤ 10) (ha : a ∈ maskL n h) (hb : b ∈ maskL n h) : Wk h a (shortL h a b) b := wk_short hh hb _ ha rfl
theorem stM_add (p : List Int) (b h : Int) : stM p (b + (p.length : Int)) h = stM p b h := by
  have h1 : ∀ t : Nat, stB p (b + (p.length : Int)) t = stB p b t := fun t => by
    unfold stB
    rw [show b + (p.length : Int) + (t : Int) = b + (t : Int) + (p.length : Int) by omega, Int.add_emod_right]
  have h2 : ∀ k, stTo p (b + (p.length : Int)) k = stTo p b k := fun k => by
    induction k with
    | zero => rfl
    | succ k ih => rw [stTo_succ, stTo_succ, ih, h1]
  exact h2 _
/-- a pattern leads from its first state back to it -/
theorem wk_pat {p : List Int} {h : Int} (hv : validP p = true) (hh : 1 ≤ h ∧ h ≤ 10) (hp : ∀ x ∈ p, x ≤ h) : Wk h (stM p 0 h) p (stM p 0 h) := by
  have hn := (validP_iff.1 hv).1.2
  have key : ∀ j, j ≤ p.length → Wk h (stM p ((p.length - j : Nat) : Int) h) (p.drop (p.length - j)) (stM p (p.length : Int) h) := by
    intro j
    induction j with
    | zero =>
      intro _
      rw [Nat.sub_zero, List.drop_length]
      exact rfl
    | succ j ih =>
      intro hj
      have hlt : p.length - (j + 1) < p.length := by omega
      have e : p.length - j = p.length - (j + 1) + 1 := by omega
      obtain ⟨h1, h2⟩ := step_st hv hh hp ((p.length - (j + 1) : Nat) : Int)
      have ht : tAt p ((p.length - (j + 1) : Nat) : Int) = p[p.length - (j + 1)] := by
        unfold tAt
        rw [Int.emod_eq_of_lt (by omega) (by omega)]
        simp [List.getD, hlt]
      rw [ht] at h1 h2
      rw [List.drop_eq_getElem_cons hlt]
      refine ⟨h1, ?_⟩
      rw [h2, ← e]
      have := ih (by omega)
      rw [show ((p.length - (j + 1) : Nat) : Int) + 1 = ((p.length - j : Nat) : Int) by omega]
      exact this
  have h1 := key p.length (Nat.le_refl _)
  rw [Nat.sub_self, List.drop_zero] at h1
  have h2 := stM_add p 0 h
  rw [show (0 : Int) + (p.length : Int) = (p.length : Int) by omega] at h2
  rw [h2] at h1
  exact h1
section
variable {n h m : Int} {xs : List Int}
end
end Go.Proofs.YtioemkdapoombaaGreatDoor
end
end
section
section
set_option linter.unusedVariables false
namespace Go.Proofs.YtioemkdapoombaaGreatDoor
open Go.ChangeShapes Go.WideShapes Go.ChangeAt Go.RowKit
set_option maxRecDepth 100000 in
theorem tab_of {W : World} (h : laidMetH Tryz.prog [("math/bits.deBruijn32tab", Rows.laid_math_bits_deBruijn32tab), ("math/bits.deBruijn64tab", Rows.laid_math_bits_deBruijn64tab), ("internal/strconv.uint64pow10", Rows.laid_internal_strconv_uint64pow10)] W) : Tab W := by
  rw [MakeChecks.laidMetH_plain _ _ _ (by kernel_rfl)] at h
  have h3 : laidMet Tryz.prog [("internal/strconv.uint64pow10", Lib.tabData .u64 Lib.pow10Tab)] W := h.tail.tail
  exact Lib.tabIs_of_head gTab (by kernel_rfl) Tryz.underlying167 Tryz.underlying95 (by kernel_rfl) (by kernel_rfl) h3
section
variable {H : Type} {enc : TypeId × Value → H} {W : World} {base : Nat} {v : Value} {d : DataW H} {p : List MemPlace}
end
end Go.Proofs.YtioemkdapoombaaGreatDoor
end
section
set_option linter.unusedVariables false
namespace Go.Proofs.YtioemkdapoombaaGreatDoor
open Go.ChangeShapes Go.WideShapes Go.ChangeAt Go.RowKit
set_option linter.unusedSimpArgs false
end Go.Proofs.YtioemkdapoombaaGreatDoor
end
end
section
section
set_option linter.unusedVariables false
namespace Go.Proofs.YtioemkdapoombaaGreatDoor
open Go.ChangeShapes Go.WideShapes Go.ChangeAt Go.RowKit
theorem valid_ok {xs : List Int} (h : validP xs = true) : okThrows xs = true := by
  unfold validP at h
  rw [Bool.and_eq_true] at h
  exact h.1
set_option maxHeartbeats 2000000 in
set_option maxRecDepth 100000 in
theorem c_impl_PatternText (xs : List Int) (v : Value) (w : World) (h : RdI w v xs) (hv : validP xs = true) :
    Calls Tryz.prog 47 #[v] w fun e w' => e = .returned (.string (hexT xs)) ∧ Below w.heap.size w w' := by
  have h' := h
  obtain ⟨a1, cap1, rfl, hl1, _⟩ := h'
  have hok := okThrows_iff.1 (valid_ok hv)
  have hx : ∀ x ∈ xs, 0 ≤ x ∧ x < 16 := fun x hx => by have := hok.1 x hx; omega
  have hl : xs.length < 1000000 := by omega
  have H := Lib.hid h
  have HX := Lib.hid hx
  clear hok hx h
  go_enter Tryz.func47, Tryz.ntmps47
  go_wp2_with fail
  refine (c_impl_ValidPattern xs _ _ H.out).mono ?_; rintro e w0 ⟨rfl, hb0⟩; rw [hv]
  have hl2 := hl
  go_wp2
  go_loopw [3, 12] (fun s i wr => ∃ k : Nat, k ≤ xs.length ∧ i = .int .i64 k ∧ OwnB w0.heap.size wr.heap.size wr s ((xs.take k).map hexC) ∧ Below w.heap.size w wr ∧ w0.heap.size ≤ wr.heap.size) (fun _ i _ => xs.length - (intOf i).toNat)
  case atStart => exact ⟨0, by omega, rfl, (OwnRow.made rfl rfl (Nat.le_refl _)).tight, by (repeat (first | (with_reducible assumption) | (with_reducible exact Below.refl _ _) | (with_reducible refine Below.setCell ?_ (by first | (simp; done) | (simp; omega)) _) | (with_reducible refine Below.al ?_ _) | (with_reducible refine Below.dr ?_) | (with_reducible refine Below.drN ?_ _) | (with_reducible refine Below.tr ?_ (by with_reducible assumption)))), by rw [World.size_alloc]; omega⟩
  case round =>
    obtain ⟨k, hk, rfl, ho, hb, hs0⟩ := hrel
    have hlo5 := World.ownsRow.lt ho.1
    by_cases hlt : k < xs.length
    · obtain ⟨_, _, e, _, hc⟩ := H.out.below hb
      cases e
      obtain ⟨b1, o1, rfl, x0⟩ := hc k hlt
      have hxk := HX.out xs[k] (List.getElem_mem hlt)
      have HT := Lib.hid (show (xs.take (k + 1)).map hexC = (xs.take k).map hexC ++ [hexC xs[k]] by rw [List.take_succ_eq_append_getElem hlt, List.map_append]; rfl)
      have hll : ((xs.take k).map hexC).length < 1000000000 := by rw [List.length_map, List.length_take]; omega
      rw [List.getD_eq_getElem?_getD, List.getElem?_eq_getElem hlt, Option.getD_some] at x0
      obtain ⟨n, Hn⟩ : ∃ n : Int, Hid (xs[k] = n) := ⟨xs[k], Lib.hid rfl⟩
      rw [Hn.out] at x0 hxk HT
      have hix := fun w' => digs_ix n hxk w'
      obtain ⟨S, HS⟩ : ∃ S, Hid ((xs.take k).map hexC = S) := ⟨_, Lib.hid rfl⟩
      rw [HS.out] at HT ho hll
      obtain ⟨c, HC⟩ : ∃ c, Hid (hexC n = c) := ⟨_, Lib.hid rfl⟩
      rw [HC.out] at HT hix
      clear hc
      go_wp2_with (first
        | (at_builtin; refine push_row_at (row := rowB) rfl _ _ _ _ rfl Tryz.underlying22 (.int .u8 0) 1 infoB rfl (by decide) (by decide) rowB_len w0.heap.size _ _ _ c #[.int .u8 c] _ rfl (rowB_one _) rfl rfl (by exact ho) hll (by omega) ?_; intro v' w5 hown5 hbel5 hs5 hg5 hat5))
      go_roundw
      case rel => exact ⟨k + 1, by omega, by go_num, by rw [HT.out]; exact hown5, hb.grown hg5 hb.size (fun q hq => Nat.le_trans hb0.size (hlo5 q hq).1), by omega⟩
      case measure => simp [intOf]; omega
    · obtain rfl : k = xs.length := by omega
      rw [List.take_length] at ho
      have hcv := conv_own ho
      go_wp2
      go_ret
      exact ⟨rfl, hb⟩
end Go.Proofs.YtioemkdapoombaaGreatDoor
end
section
set_option linter.unusedVariables false
namespace Go.Proofs.YtioemkdapoombaaGreatDoor
open Go.ChangeShapes Go.WideShapes Go.ChangeAt Go.RowKit
set_option linter.unusedSimpArgs false
theorem c_patI (xs : List Int) (D : ByteArray) (hD : Hid (hexT xs = D)) (v : Value) (w : World) (h : RdI w v xs) (hv : Hid (validP xs = true)) :
    Calls Tryz.prog 47 #[v] w fun e w' => e = .returned (.string D) ∧ Below w.heap.size w w' := by
  rw [← hD.out]; exact c_impl_PatternText xs v w h hv.out
theorem c_patS (xs : List Int) (D : ByteArray) (hD : Hid (hexT xs = D)) (v : Value) (w : World) (h : RdI w v xs) (hv : Hid (validP xs = true)) :
    Calls Tryz.prog 51 #[v] w fun e w' => e = .returned (.string D) ∧ Below w.heap.size w w' := by
  rw [← hD.out]
  have hok := okThrows_iff.1 (valid_ok hv.out)
  exact c_spec_l02Text xs v w h (fun x hx => by have := hok.1 x hx; omega)
end Go.Proofs.YtioemkdapoombaaGreatDoor
end
end
