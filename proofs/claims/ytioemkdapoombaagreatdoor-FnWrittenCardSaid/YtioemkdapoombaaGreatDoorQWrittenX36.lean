/- The law WrittenX: what it rests on, part 36 of 46. -/
import Derived.Test.YtioemkdapoombaaGreatDoorQWrittenX27
import Derived.Test.YtioemkdapoombaaGreatDoorQWrittenX34
import Derived.Test.YtioemkdapoombaaGreatDoorQWrittenX35
namespace Go.Proofs.YtioemkdapoombaaGreatDoor
open Go.RowKit
set_option linter.unusedVariables false
set_option linter.unusedSimpArgs false
theorem chr_numsR {L : List Int} {i : Nat} (hi : i < L.length) (hb : 0 ≤ L[i] ∧ L[i] ≤ 255) : chr (strOfNums L) i = L[i] := by
  have h1 : i < (strOfNums L).size := by rw [strOfNums_size]; exact hi
  rw [← chr_at h1]
  have h2 : (strOfNums L)[i] = UInt8.ofNat (L[i]).toNat := by
    show (strOfNums L).data[i] = _
    simp [strOfNums]
  rw [h2]
  have h3 : (UInt8.ofNat (L[i]).toNat).toNat = (L[i]).toNat := by
    rw [UInt8.toNat_ofNat']
    exact Nat.mod_eq_of_lt (by omega)
  rw [h3]
  omega
theorem chr_stR {h m : Int} {t : Nat} (ht : t < h.toNat) : chr (stT h m) t = 48 + m / 2 ^ t % 2 := by
  have hl : t < (btxTo m h.toNat).length := by rw [btxTo_len]; exact ht
  have e : (btxTo m h.toNat)[t] = btxN m t := by simp [btxTo]
  have hb := btx_bd m t
  unfold stT
  rw [chr_numsR hl (by rw [e]; omega), e]
  rfl
theorem bit_rsR (s : ByteArray) : ∀ (k t : Nat), bitB (rsM s k) (t : Int) = (decide (t < k) && decide (chr s t = 49))
  | 0, t => by rw [show rsM s 0 = 0 from rfl, bit_zero]; simp
  | k + 1, t => by
    have ih := bit_rsR s k t
    have hb := (rsM_bd s k).1
    by_cases hs : chr s k = 49
    · have e : rsM s (k + 1) = (((rsM s k).toNat ||| 2 ^ k : Nat) : Int) := by show (if _ then _ else _) = _; rw [if_pos hs]
      rw [e, bit_or, show (((rsM s k).toNat : Nat) : Int) = rsM s k by omega, ih]
      by_cases e : t = k
      · subst e; simp [hs]
      · have h1 : (t < k + 1) ↔ (t < k) := by omega
        have h2 : ¬ k = t := fun h => e h.symm
        simp only [h1, h2, decide_false, Bool.or_false]
    · have e : rsM s (k + 1) = rsM s k := by show (if _ then _ else _) = _; rw [if_neg hs]
      rw [e, ih]
      by_cases e : t = k
      · subst e; simp [hs]
      · have h1 : (t < k + 1) ↔ (t < k) := by omega
        simp only [h1]
theorem read_textR {h m : Int} (hh : 1 ≤ h ∧ h ≤ 10) (hm : 0 ≤ m ∧ m < 2 ^ h.toNat) : rsB (stT h m) = true ∧ ((stT h m).size : Int) = h ∧ rsM (stT h m) (stT h m).size = m := by
  have hsz := stT_size h m
  refine ⟨?_, by omega, ?_⟩
  · unfold rsB
    rw [inB_iff.2 (show (1 : Int) ≤ ((stT h m).size : Int) ∧ ((stT h m).size : Int) ≤ 10 by omega), Bool.true_and]
    refine rsA_yes fun i hi => ?_
    rw [chr_stR (by omega)]
    have := Int.emod_nonneg (m / 2 ^ i) (show (2 : Int) ≠ 0 by decide)
    have := Int.emod_lt_of_pos (m / 2 ^ i) (show (0 : Int) < 2 by decide)
    omega
  · refine eq_of_bits (rsM_bd _ _).1 hm.1 fun t => ?_
    rw [bit_rsR, hsz]
    by_cases ht : t < h.toNat
    · rw [decide_eq_true ht, Bool.true_and, chr_stR ht, bitB_mod]
      have : (48 + m / 2 ^ t % 2 = 49) ↔ (m / 2 ^ t % 2 = 1) := by omega
      simp only [this]
    · rw [decide_eq_false ht, Bool.false_and, bit_high hm.1 (j := h.toNat) hm.2 (by omega)]
/-! words of written lines -/
theorem no_blank {s : ByteArray} (h : ∀ i, i < s.size → chr s i ≠ 32) : ∀ c ∈ bl s, c ≠ 32 := fun c hc e => by
  obtain ⟨i, hi, rfl⟩ := List.getElem_of_mem hc
  exact h i hi ((bl_32 hi).2 e)
theorem words_two {p a : ByteArray} (hp : ∀ c ∈ bl p, c ≠ 32) (ha : ∀ c ∈ bl a, c ≠ 32) : words ((p ++ ⟨#[32]⟩) ++ a) = [p, a] := by
  unfold words
  rw [bl_app, bl_app, show bl (⟨#[32]⟩ : ByteArray) = [32] from rfl, List.append_assoc, List.singleton_append, spl_cut hp, spl_end ha]
  simp [bsT_bl]
theorem words_three {p a b : ByteArray} (hp : ∀ c ∈ bl p, c ≠ 32) (ha : ∀ c ∈ bl a, c ≠ 32) (hb : ∀ c ∈ bl b, c ≠ 32) : words ((((p ++ ⟨#[32]⟩) ++ a) ++ ⟨#[32]⟩) ++ b) = [p, a, b] := by
  unfold words
  rw [bl_app, bl_app, bl_app, bl_app, show bl (⟨#[32]⟩ : ByteArray) = [32] from rfl]
  rw [List.append_assoc, List.singleton_append, List.append_assoc, List.append_assoc, List.singleton_append, spl_cut hp, spl_cut ha, spl_end hb]
  simp [bsT_bl]
theorem hex_chr {xs : List Int} (hx : ∀ x ∈ xs, 0 ≤ x ∧ x < 16) {i : Nat} (hi : i < xs.length) : chr (hexT xs) i = hexC (xs[i]) := by
  have h1 := hx _ (List.getElem_mem hi)
  have h2 := hexC_bd h1
  unfold hexT
  rw [chr_numsR (by simpa using hi) (by simpa using h2)]
  simp
theorem hexC_ne {k : Int} (h : 0 ≤ k ∧ k < 16) : hexC k ≠ 32 := by unfold hexC; split <;> omega
theorem hex_no {xs : List Int} (hx : ∀ x ∈ xs, 0 ≤ x ∧ x < 16) : ∀ c ∈ bl (hexT xs), c ≠ 32 := no_blank (fun i hi => by
  rw [hexT_size] at hi
  rw [hex_chr hx hi]
  exact hexC_ne (hx _ (List.getElem_mem hi)))
theorem hex_digs {xs : List Int} (hx : ∀ x ∈ xs, 0 ≤ x ∧ x < 16) : digsTo (hexT xs) (hexT xs).size = xs := by
  rw [hexT_size]
  apply List.ext_getElem
  · rw [digsTo_len]
  · intro i h1 h2
    have : (digsTo (hexT xs) xs.length)[i] = digC (chr (hexT xs) i) := by simp [digsTo]
    rw [this, hex_chr hx h2, digC_hex (hx _ (List.getElem_mem h2))]
theorem hex_ok {xs : List Int} (hx : ∀ x ∈ xs, 0 ≤ x ∧ x < 16) (hl : 1 ≤ xs.length ∧ xs.length ≤ 12) : okDig (hexT xs) = true := by
  unfold okDig
  rw [hex_digs hx, hexT_size, inB_iff.2 (show (1 : Int) ≤ (xs.length : Int) ∧ (xs.length : Int) ≤ 12 by omega), Bool.and_true, List.all_eq_true]
  intro x h
  exact decide_eq_true (hx x h).1
def thrP : ByteArray := ⟨#[116, 104, 114, 111, 119]⟩
def patP : ByteArray := ⟨#[112, 97, 116, 116, 101, 114, 110]⟩
def staP : ByteArray := ⟨#[115, 116, 97, 114, 116]⟩
theorem thrP_no : ∀ c ∈ bl thrP, c ≠ 32 := by decide
theorem patP_no : ∀ c ∈ bl patP, c ≠ 32 := by decide
theorem staP_no : ∀ c ∈ bl staP, c ≠ 32 := by decide
theorem thrS_eq : thrS = thrP ++ ⟨#[32]⟩ := by decide
theorem patS_eq : patS = patP ++ ⟨#[32]⟩ := by decide
theorem staS_eq : staS = staP ++ ⟨#[32]⟩ := by decide
theorem line_no {R : Rc} {s : ByteArray} {w1 w2 : ByteArray} {ws : List ByteArray} (he : R.e = false) (hw : words s = w1 :: w2 :: ws) : lineF R s = lineW R (words s) := by
  refine line_w he ?_
  cases hend : (s.toList == [101, 110, 100])
  · rfl
  · rw [end_words hend] at hw; cases hw
theorem line_thrW {R : Rc} {xs : List Int} (he : R.e = false) (hx : ∀ x ∈ xs, 0 ≤ x ∧ x < 16) (hl : 1 ≤ xs.length ∧ xs.length ≤ 12) : lineF R (thrS ++ hexT xs) = makeF R xs := by
  have hw : words (thrS ++ hexT xs) = [thrP, hexT xs] := by rw [thrS_eq, words_two thrP_no (hex_no hx)]
  rw [line_no he hw, hw]
  show (bif bl thrP == thrW then (bif okDig (hexT xs) then makeF R (digsTo (hexT xs) (hexT xs).size) else (2, R)) else (bif bl thrP == chkW then checkF R (hexT xs) else (2, R))) = _
  rw [show (bl thrP == thrW) = true from rfl, cond_true, hex_ok hx hl, cond_true, hex_digs hx]
theorem line_endW {R : Rc} (he : R.e = false) : lineF R endS = (0, ⟨R.h, R.m, R.xs, true⟩) := line_end he (by rw [tl_bl]; rfl)
theorem start_W {h m : Int} (hv : validB h m = true) : startF (staS ++ stT h m) = some (h, m) := by
  obtain ⟨h1, h2⟩ := validB_iff.1 hv
  obtain ⟨r1, r2, r3⟩ := read_textR (h := h) (m := m) h1 ⟨h2.1, by omega⟩
  have hno : ∀ c ∈ bl (stT h m), c ≠ 32 := no_blank (fun i hi => by
    rw [stT_size] at hi
    rw [chr_stR hi]
    have := Int.emod_nonneg (m / 2 ^ i) (show (2 : Int) ≠ 0 by decide)
    omega)
  have hw : words (staS ++ stT h m) = [staP, stT h m] := by rw [staS_eq, words_two staP_no hno]
  unfold startF
  rw [hw]
  show (if bl staP = staW ∧ rsB (stT h m) = true then some (((stT h m).size : Int), rsM (stT h m) (stT h m).size) else none) = _
  rw [if_pos ⟨rfl, r1⟩, r2, r3]
theorem decW : ∀ k : Nat, k < 20 → numOk (decT ((k : Int) + 1)) = true ∧ numN (decT ((k : Int) + 1)) = (k : Int) + 1 ∧ (bl (decT ((k : Int) + 1))).all (fun c => c != 32) = true := by decide +kernel
theorem dec_W {n : Int} (h : 1 ≤ n ∧ n ≤ 20) : numOk (decT n) = true ∧ numN (decT n) = n ∧ ∀ c ∈ bl (decT n), c ≠ 32 := by
  obtain ⟨k, rfl⟩ : ∃ k : Nat, n = (k : Int) + 1 := ⟨(n - 1).toNat, by omega⟩
  obtain ⟨h1, h2, h3⟩ := decW k (by omega)
  exact ⟨h1, h2, fun c hc => by simpa using List.all_eq_true.1 h3 c hc⟩
theorem line_patW {R : Rc} {p : List Int} {n : Int} (he : R.e = false) (hp : validP p = true) (hn : 1 ≤ n ∧ n ≤ 20) : lineF R (((patS ++ hexT p) ++ ⟨#[32]⟩) ++ decT n) = makeF R (repL p n.toNat) := by
  have hok := okThrows_iff.1 (valid_ok hp)
  have hx : ∀ x ∈ p, 0 ≤ x ∧ x < 16 := fun x h => by have := hok.1 x h; omega
  have hl := okThr_len hp
  have hl1 : 1 ≤ p.length := by have := hok.2; omega
  obtain ⟨d1, d2, d3⟩ := dec_W hn
  have hw : words (((patS ++ hexT p) ++ ⟨#[32]⟩) ++ decT n) = [patP, hexT p, decT n] := by rw [patS_eq, words_three patP_no (hex_no hx) d3]
  rw [line_no he hw, hw]
  show (bif bl patP == patT then patF R (hexT p) (decT n) else (2, R)) = _
  rw [show (bl patP == patT) = true from rfl, cond_true]
  have hc : (okDig (hexT p) && (numOk (decT n) && inB (numN (decT n)) 1 20)) = true := by
    rw [hex_ok hx ⟨hl1, hl⟩, d1, d2, inB_iff.2 hn]; rfl
  rw [patF_mk hc (by rw [hex_digs hx]; exact hp), hex_digs hx, d2]
/-! runs of written lines -/
theorem make_ok {R : Rc} {xs : List Int} (h : runOk R.h R.m xs = true) : makeF R xs = (0, R.add xs) := by unfold makeF; rw [h]; rfl
/-- right lines that lead from R to R' -/
def Leads (R : Rc) (L : List ByteArray) (R' : Rc) : Prop := okL R L ∧ folR R L L.length = R'
theorem Leads.nil (R : Rc) : Leads R [] R := ⟨fun k hk => absurd hk (Nat.not_lt_zero _), rfl⟩
theorem Leads.cons {R R' : Rc} {s : ByteArray} {L : List ByteArray} {R1 : Rc} (h1 : lineF R s = (0, R1)) (h2 : Leads R1 L R') : Leads R (s :: L) R' := by
  refine ⟨okL_cons.2 ⟨by rw [h1], by rw [h1]; exact h2.1⟩, ?_⟩
  rw [List.length_cons, folR_cons, h1]
  exact h2.2
theorem Leads.append : ∀ {L : List ByteArray} {R R1 R' : Rc} {K : List ByteArray}, Leads R L R1 → Leads R1 K R' → Leads R (L ++ K) R'
  | [], R, R1, R', K, h1, h2 => by
    have : R = R1 := h1.2
    rw [List.nil_append, this]; exact h2
  | s :: L, R, R1, R', K, h1, h2 => by
    obtain ⟨a1, a2⟩ := okL_cons.1 h1.1
    have e : lineF R s = (0, (lineF R s).2) := by rw [← a1]
    refine Leads.cons e (Leads.append (L := L) ⟨a2, ?_⟩ h2)
    have h3 := h1.2
    rw [List.length_cons, folR_cons] at h3
    exact h3
theorem chunk_len {xs : List Int} {k : Nat} (hk : 12 * k < xs.length) : 1 ≤ ((xs.drop (12 * k)).take 12).length ∧ ((xs.drop (12 * k)).take 12).length ≤ 12 := by
  rw [List.length_take, List.length_drop]; omega
theorem chunk_take (xs : List Int) (k : Nat) : xs.take (12 * (k + 1)) = xs.take (12 * k) ++ (xs.drop (12 * k)).take 12 := by
  rw [show 12 * (k + 1) = 12 * k + 12 by omega, List.take_add]
theorem lin_step {R : Rc} {xs : List Int} (he : R.e = false) (hx : ∀ x ∈ xs, 0 ≤ x ∧ x < 16) (hr : runOk R.h R.m xs = true) {k : Nat} (hk : 12 * k < xs.length) : lineF (R.add (xs.take (12 * k))) (lineAt xs k) = (0, R.add (xs.take (12 * (k + 1)))) := by
  have h1 : runOk R.h R.m (xs.take (12 * (k + 1))) = true := by
    have h0 := hr
    rw [← List.take_append_drop (12 * (k + 1)) xs, run_app, Bool.and_eq_true] at h0
    exact h0.1
  have hc := chunk_take xs k
  have hl := line_hex hx k
  have hn := chunk_len hk
  unfold lineAt
  generalize (xs.drop (12 * k)).take 12 = C at hc hl hn
  generalize xs.take (12 * k) = A at hc
  rw [hc, run_app, Bool.and_eq_true] at h1
  have h2 := line_thrW (R := R.add A) (xs := C) he hl hn
  have h3 := make_ok (R := R.add A) (xs := C) h1.2
  rw [h2, h3, Rc.add_app, ← hc]
theorem lin_leads {R : Rc} {xs : List Int} (he : R.e = false) (hx : ∀ x ∈ xs, 0 ≤ x ∧ x < 16) (hr : runOk R.h R.m xs = true) (k : Nat) (hk : k ≤ thrN xs.length) : Leads R (linTo xs k) (R.add (xs.take (12 * k))) := by
  induction k with
  | zero =>
    rw [show linTo xs 0 = [] from rfl, Nat.mul_zero, List.take_zero, Rc.add_nil]
    exact Leads.nil R
  | succ k ih =>
    rw [linTo_succ]
    exact (ih (by omega)).append (Leads.cons (lin_step he hx hr (by unfold thrN at hk; omega)) (Leads.nil _))
theorem thr_leads {R : Rc} {xs : List Int} (he : R.e = false) (hx : ∀ x ∈ xs, 0 ≤ x ∧ x < 16) (hr : runOk R.h R.m xs = true) : Leads R (thrL xs) (R.add xs) := by
  have h := lin_leads he hx hr (thrN xs.length) (Nat.le_refl _)
  rwa [List.take_of_length_le (by unfold thrN; omega)] at h
/-- a whole record: its start, right lines, its end -/
theorem whole_run {h m : Int} {L : List ByteArray} {R' : Rc} (hv : validB h m = true) (hl : Leads (startR h m) L R') (he : R'.e = false) (hn : L.length ≤ 58) : askC (doneR h m L) = 0 ∧ (runF (doneR h m L)).2.2 = ⟨R'.h, R'.m, R'.xs, true⟩ := by
  have h1 : Leads (startR h m) (L ++ [endS]) ⟨R'.h, R'.m, R'.xs, true⟩ := hl.append (Leads.cons (line_endW he) (Leads.nil _))
  have h2 := runL_all 1 h1.1
  rw [h1.2] at h2
  have h3 : runF (doneR h m L) = (-1, 0, ⟨R'.h, R'.m, R'.xs, true⟩) := by
    unfold doneR
    rw [runF_some (start_W hv), h2]; rfl
  refine ⟨ask_ok ?_ (by rw [h3]), by rw [h3]⟩
  unfold doneR
  rw [List.length_cons, List.length_append]
  show ¬ 60 < _ + 1 + 1
  omega
theorem lines_whole {h m : Int} {xs : List Int} (hv : validB h m = true) (hr : runOk h m xs = true) (hl : xs.length ≤ 696) : askC (linR h m xs) = 0 ∧ rpH (linR h m xs) = h ∧ rpM (linR h m xs) = runM m xs xs.length ∧ rpN (linR h m xs) = (xs.length : Int) ∧ thL (linR h m xs) = xs := by
  have hx := run_hex hv hr
  have h1 := whole_run hv (thr_leads (R := startR h m) rfl hx hr) rfl (by rw [thrL_len]; unfold thrN; omega)
  have e : linR h m xs = doneR h m (thrL xs) := rfl
  rw [e]
  obtain ⟨h2, h3⟩ := h1
  refine ⟨h2, ?_, ?_, ?_, ?_⟩
  · unfold rpH; rw [h2, h3]; rfl
  · unfold rpM; rw [h2, h3]; rfl
  · unfold rpN; rw [h2, h3]; show (([] ++ xs).length : Int) = _; rw [List.nil_append]
  · unfold thL; rw [h2, h3]; show [] ++ xs = xs; rw [List.nil_append]
end Go.Proofs.YtioemkdapoombaaGreatDoor
