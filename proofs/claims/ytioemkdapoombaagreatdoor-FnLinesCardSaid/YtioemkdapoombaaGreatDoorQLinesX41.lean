/- The law LinesX: what it rests on, part 41 of 46. -/
import Derived.Test.YtioemkdapoombaaGreatDoorQLinesX05
import Derived.Test.YtioemkdapoombaaGreatDoorQLinesX30
import Derived.Test.YtioemkdapoombaaGreatDoorQLinesX39
section
section
set_option linter.unusedVariables false
namespace Go.Proofs.YtioemkdapoombaaGreatDoor
theorem bit_zero (t : Nat) : bitB 0 (t : Int) = false := by simp [bitB]
theorem eq_of_bits {a b : Int} (ha : 0 ≤ a) (hb : 0 ≤ b) (h : ∀ t : Nat, bitB a (t : Int) = bitB b (t : Int)) : a = b := by
  obtain ⟨x, rfl⟩ := Int.eq_ofNat_of_zero_le ha
  obtain ⟨y, rfl⟩ := Int.eq_ofNat_of_zero_le hb
  congr 1
  apply Nat.eq_of_testBit_eq
  intro i
  have := h i
  rwa [bit_nat, bit_nat] at this
section
variable {p : List Int}
end
end Go.Proofs.YtioemkdapoombaaGreatDoor
end
section
set_option linter.unusedVariables false
namespace Go.Proofs.YtioemkdapoombaaGreatDoor
/-- throws that are possible one behind the other, from one state to another -/
def Wk (h : Int) : Int → List Int → Int → Prop
  | m, [], m' => m = m'
  | m, t :: ts, m' => canB h m t = true ∧ Wk h (nextM m t) ts m'
theorem Wk.append {h : Int} : ∀ {xs : List Int} {m m1 m2 : Int} {ys : List Int}, Wk h m xs m1 → Wk h m1 ys m2 → Wk h m (xs ++ ys) m2
  | [], m, m1, m2, ys, h1, h2 => by have e : m = m1 := h1; subst e; exact h2
  | t :: ts, m, m1, m2, ys, h1, h2 => ⟨h1.1, Wk.append h1.2 h2⟩
theorem Wk.mem {n h : Int} (hh : 1 ≤ h ∧ h ≤ 10) : ∀ {xs : List Int} {m m' : Int}, m ∈ maskL n h → Wk h m xs m' → m' ∈ maskL n h
  | [], m, m', hm, h1 => by have e : m = m' := h1; subst e; exact hm
  | t :: ts, m, m', hm, h1 => Wk.mem hh (next_mem hh hm h1.1) h1.2
/-- the state behind the first k throws -/
def rnM (m : Int) (xs : List Int) (k : Nat) : Int := (xs.take k).foldl nextM m
theorem Wk.at {h : Int} : ∀ {xs : List Int} {m m' : Int}, Wk h m xs m' → (∀ k, k < xs.length → canB h (rnM m xs k) (xs.getD k 0) = true) ∧ rnM m xs xs.length = m'
  | [], m, m', h1 => ⟨fun k hk => by simp at hk, h1⟩
  | t :: ts, m, m', h1 => by
    obtain ⟨h2, h3⟩ := Wk.at h1.2
    refine ⟨fun k hk => ?_, ?_⟩
    · cases k with
      | zero => exact h1.1
      | succ k => exact h2 k (by simpa using hk)
    · exact h3
section
variable {n h m : Int} {xs : List Int}
end
end Go.Proofs.YtioemkdapoombaaGreatDoor
end
end
section
namespace Go.Proofs.YtioemkdapoombaaGreatDoor
open Go.RowKit
set_option linter.unusedVariables false
set_option linter.unusedSimpArgs false
theorem chr_numsR {L : List Int} {i : Nat} (hi : i < L.length) (hb : 0 ≤ L[i] ∧ L[i] ≤ 255) : chr (strOfNums L) i = L[i] := by
  have h1 : i < (strOfNums L).size := by rw [strOfNums_size]; exact hi
  rw [← chr_at h1]
  have h2 : (strOfNums L)[i] = UInt8.ofNat (L[i]).toNat := by
    show (strOfNums L).data[i] = _
    simp [strOfNums]
  rw [h2]
  have h3 : (UInt8.ofNat (L[i]).toNat).toNat = (L[i]).toNat := by
    rw [UInt8.toNat_ofNat']
    exact Nat.mod_eq_of_lt (by omega)
  rw [h3]
  omega
theorem chr_stR {h m : Int} {t : Nat} (ht : t < h.toNat) : chr (stT h m) t = 48 + m / 2 ^ t % 2 := by
  have hl : t < (btxTo m h.toNat).length := by rw [btxTo_len]; exact ht
  have e : (btxTo m h.toNat)[t] = btxN m t := by simp [btxTo]
  have hb := btx_bd m t
  unfold stT
  rw [chr_numsR hl (by rw [e]; omega), e]
  rfl
theorem bit_rsR (s : ByteArray) : ∀ (k t : Nat), bitB (rsM s k) (t : Int) = (decide (t < k) && decide (chr s t = 49))
  | 0, t => by rw [show rsM s 0 = 0 from rfl, bit_zero]; simp
  | k + 1, t => by
    have ih := bit_rsR s k t
    have hb := (rsM_bd s k).1
    by_cases hs : chr s k = 49
    · have e : rsM s (k + 1) = (((rsM s k).toNat ||| 2 ^ k : Nat) : Int) := by show (if _ then _ else _) = _; rw [if_pos hs]
      rw [e, bit_or, show (((rsM s k).toNat : Nat) : Int) = rsM s k by omega, ih]
      by_cases e : t = k
      · subst e; simp [hs]
      · have h1 : (t < k + 1) ↔ (t < k) := by omega
        have h2 : ¬ k = t := fun h => e h.symm
        simp only [h1, h2, decide_false, Bool.or_false]
    · have e : rsM s (k + 1) = rsM s k := by show (if _ then _ else _) = _; rw [if_neg hs]
      rw [e, ih]
      by_cases e : t = k
      · subst e; simp [hs]
      · have h1 : (t < k + 1) ↔ (t < k) := by omega
        simp only [h1]
theorem read_textR {h m : Int} (hh : 1 ≤ h ∧ h ≤ 10) (hm : 0 ≤ m ∧ m < 2 ^ h.toNat) : rsB (stT h m) = true ∧ ((stT h m).size : Int) = h ∧ rsM (stT h m) (stT h m).size = m := by
  have hsz := stT_size h m
  refine ⟨?_, by omega, ?_⟩
  · unfold rsB
    rw [inB_iff.2 (show (1 : Int) ≤ ((stT h m).size : Int) ∧ ((stT h m).size : Int) ≤ 10 by omega), Bool.true_and]
    refine rsA_yes fun i hi => ?_
    rw [chr_stR (by omega)]
    have := Int.emod_nonneg (m / 2 ^ i) (show (2 : Int) ≠ 0 by decide)
    have := Int.emod_lt_of_pos (m / 2 ^ i) (show (0 : Int) < 2 by decide)
    omega
  · refine eq_of_bits (rsM_bd _ _).1 hm.1 fun t => ?_
    rw [bit_rsR, hsz]
    by_cases ht : t < h.toNat
    · rw [decide_eq_true ht, Bool.true_and, chr_stR ht, bitB_mod]
      have : (48 + m / 2 ^ t % 2 = 49) ↔ (m / 2 ^ t % 2 = 1) := by omega
      simp only [this]
    · rw [decide_eq_false ht, Bool.false_and, bit_high hm.1 (j := h.toNat) hm.2 (by omega)]
/-! words of written lines -/
theorem no_blank {s : ByteArray} (h : ∀ i, i < s.size → chr s i ≠ 32) : ∀ c ∈ bl s, c ≠ 32 := fun c hc e => by
  obtain ⟨i, hi, rfl⟩ := List.getElem_of_mem hc
  exact h i hi ((bl_32 hi).2 e)
theorem words_two {p a : ByteArray} (hp : ∀ c ∈ bl p, c ≠ 32) (ha : ∀ c ∈ bl a, c ≠ 32) : words ((p ++ ⟨#[32]⟩) ++ a) = [p, a] := by
  unfold words
  rw [bl_app, bl_app, show bl (⟨#[32]⟩ : ByteArray) = [32] from rfl, List.append_assoc, List.singleton_append, spl_cut hp, spl_end ha]
  simp [bsT_bl]
def chkP : ByteArray := ⟨#[99, 104, 101, 99, 107]⟩
theorem chkP_no : ∀ c ∈ bl chkP, c ≠ 32 := by decide
theorem line_no {R : Rc} {s : ByteArray} {w1 w2 : ByteArray} {ws : List ByteArray} (he : R.e = false) (hw : words s = w1 :: w2 :: ws) : lineF R s = lineW R (words s) := by
  refine line_w he ?_
  cases hend : (s.toList == [101, 110, 100])
  · rfl
  · rw [end_words hend] at hw; cases hw
theorem line_chkW {R : Rc} {h m : Int} (he : R.e = false) (hv : validB h m = true) (hh : R.h = h) (hm : R.m = m) : lineF R (⟨#[99, 104, 101, 99, 107, 32]⟩ ++ stT h m) = (0, R) := by
  obtain ⟨h1, h2⟩ := validB_iff.1 hv
  obtain ⟨r1, r2, r3⟩ := read_textR (h := h) (m := m) h1 ⟨h2.1, by omega⟩
  have hno : ∀ c ∈ bl (stT h m), c ≠ 32 := no_blank (fun i hi => by
    rw [stT_size] at hi
    rw [chr_stR hi]
    have := Int.emod_nonneg (m / 2 ^ i) (show (2 : Int) ≠ 0 by decide)
    omega)
  have hw : words ((⟨#[99, 104, 101, 99, 107, 32]⟩ : ByteArray) ++ stT h m) = [chkP, stT h m] := by
    rw [show (⟨#[99, 104, 101, 99, 107, 32]⟩ : ByteArray) = chkP ++ ⟨#[32]⟩ by decide, words_two chkP_no hno]
  rw [line_no he hw, hw]
  show (bif bl chkP == thrW then (bif okDig (stT h m) then makeF R (digsTo (stT h m) (stT h m).size) else (2, R)) else (bif bl chkP == chkW then checkF R (stT h m) else (2, R))) = _
  rw [show (bl chkP == thrW) = false from rfl, cond_false, show (bl chkP == chkW) = true from rfl, cond_true]
  unfold checkF
  rw [r1, cond_true, r2, r3, hh, hm]
  simp
/-- right lines that lead from R to R' -/
def Leads (R : Rc) (L : List ByteArray) (R' : Rc) : Prop := okL R L ∧ folR R L L.length = R'
theorem Leads.nil (R : Rc) : Leads R [] R := ⟨fun k hk => absurd hk (Nat.not_lt_zero _), rfl⟩
theorem Leads.cons {R R' : Rc} {s : ByteArray} {L : List ByteArray} {R1 : Rc} (h1 : lineF R s = (0, R1)) (h2 : Leads R1 L R') : Leads R (s :: L) R' := by
  refine ⟨okL_cons.2 ⟨by rw [h1], by rw [h1]; exact h2.1⟩, ?_⟩
  rw [List.length_cons, folR_cons, h1]
  exact h2.2
theorem Leads.append : ∀ {L : List ByteArray} {R R1 R' : Rc} {K : List ByteArray}, Leads R L R1 → Leads R1 K R' → Leads R (L ++ K) R'
  | [], R, R1, R', K, h1, h2 => by
    have : R = R1 := h1.2
    rw [List.nil_append, this]; exact h2
  | s :: L, R, R1, R', K, h1, h2 => by
    obtain ⟨a1, a2⟩ := okL_cons.1 h1.1
    have e : lineF R s = (0, (lineF R s).2) := by rw [← a1]
    refine Leads.cons e (Leads.append (L := L) ⟨a2, ?_⟩ h2)
    have h3 := h1.2
    rw [List.length_cons, folR_cons] at h3
    exact h3
end Go.Proofs.YtioemkdapoombaaGreatDoor
end
