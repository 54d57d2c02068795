/- The law LinesX: what it rests on, part 33 of 46. -/
import Derived.Test.YtioemkdapoombaaGreatDoorQLinesX09
import Derived.Test.YtioemkdapoombaaGreatDoorQLinesX22
import Derived.Test.YtioemkdapoombaaGreatDoorQLinesX29
import Derived.Test.YtioemkdapoombaaGreatDoorQLinesX32
namespace Go.Proofs.YtioemkdapoombaaGreatDoor
open Go.ChangeShapes Go.WideShapes Go.ChangeAt Go.RowKit
set_option linter.unusedSimpArgs false
set_option linter.unusedVariables false
theorem c_impl_isDigit (c : Int) (w : World) :
    Calls Tryz.prog 154 #[.int .u8 c] w fun e w' => e = .returned (.bool (inB c 48 57)) ∧ w = w' := by
  by_cases h1 : 48 ≤ c
  · by_cases h2 : c ≤ 57
    · have e : inB c 48 57 = true := inB_iff.2 ⟨h1, h2⟩
      rw [e]
      go_enter Tryz.func154, Tryz.ntmps154
      go_wp2
      go_ret
      exact ⟨rfl, rfl⟩
    · have e : inB c 48 57 = false := by cases h : inB c 48 57 with | false => rfl | true => exact absurd (inB_iff.1 h).2 h2
      rw [e]
      go_enter Tryz.func154, Tryz.ntmps154
      go_wp2
      go_ret
      exact ⟨rfl, rfl⟩
  · have e : inB c 48 57 = false := by cases h : inB c 48 57 with | false => rfl | true => exact absurd (inB_iff.1 h).1 h1
    rw [e]
    go_enter Tryz.func154, Tryz.ntmps154
    go_wp2
    go_ret
    exact ⟨rfl, rfl⟩
theorem c_spec_l01Digit (c : Int) (w : World) :
    Calls Tryz.prog 164 #[.int .u8 c] w fun e w' => e = .returned (.bool (inB c 48 57)) ∧ w = w' := by
  by_cases h1 : 48 ≤ c
  · by_cases h2 : c ≤ 57
    · have e : inB c 48 57 = true := inB_iff.2 ⟨h1, h2⟩
      rw [e]
      go_enter Tryz.func164, Tryz.ntmps164
      go_wp2
      go_ret
      exact ⟨rfl, rfl⟩
    · have e : inB c 48 57 = false := by cases h : inB c 48 57 with | false => rfl | true => exact absurd (inB_iff.1 h).2 h2
      rw [e]
      go_enter Tryz.func164, Tryz.ntmps164
      go_wp2
      go_ret
      exact ⟨rfl, rfl⟩
  · have e : inB c 48 57 = false := by cases h : inB c 48 57 with | false => rfl | true => exact absurd (inB_iff.1 h).1 h1
    rw [e]
    go_enter Tryz.func164, Tryz.ntmps164
    go_wp2
    go_ret
    exact ⟨rfl, rfl⟩
/-- the number of the first k digits -/
def valTo (t : ByteArray) : Nat → Int
  | 0 => 0
  | k + 1 => 10 * valTo t k + (chr t k - 48)
def tailS (s : ByteArray) : ByteArray := if 0 < s.size ∧ chr s 0 = 45 then s.extract 1 s.size else s
def numN (s : ByteArray) : Int := if (tailS s).size < s.size then -(valTo (tailS s) (tailS s).size) else valTo (tailS s) (tailS s).size
def allDig (t : ByteArray) : Bool := (List.range t.size).all fun i => inB (chr t i) 48 57
def numOk (s : ByteArray) : Bool := inB ((tailS s).size : Int) 1 18 && (allDig (tailS s) && ((decT (numN s)).toList == s.toList))
theorem val_bd {t : ByteArray} : ∀ {k : Nat}, (∀ j, j < k → inB (chr t j) 48 57 = true) → 0 ≤ valTo t k ∧ valTo t k < (10 : Int) ^ k
  | 0, _ => by simp [valTo]
  | k + 1, h => by
    have ih := val_bd (t := t) (k := k) (fun j hj => h j (by omega))
    have hd := inB_iff.1 (h k (by omega))
    have e : (10 : Int) ^ (k + 1) = 10 * 10 ^ k := by rw [Int.pow_succ]; omega
    rw [e]
    show 0 ≤ 10 * valTo t k + (chr t k - 48) ∧ 10 * valTo t k + (chr t k - 48) < 10 * 10 ^ k
    omega
theorem ten_le {k n : Nat} (h : k ≤ n) : (10 : Int) ^ k ≤ 10 ^ n := by
  have := Nat.pow_le_pow_right (n := 10) (by omega) h
  have e1 : ((10 ^ k : Nat) : Int) = (10 : Int) ^ k := by simp
  have e2 : ((10 ^ n : Nat) : Int) = (10 : Int) ^ n := by simp
  rw [← e1, ← e2]; omega
theorem val_lo {t : ByteArray} {k : Nat} (hk : k ≤ 17) (h : ∀ j, j < k → inB (chr t j) 48 57 = true) : 0 ≤ valTo t k ∧ valTo t k < 100000000000000000 := by
  have h1 := val_bd h
  have h2 := ten_le hk
  have h3 : (10 : Int) ^ 17 = 100000000000000000 := by decide
  omega
theorem val_hi {t : ByteArray} {k : Nat} (hk : k ≤ 18) (h : ∀ j, j < k → inB (chr t j) 48 57 = true) : 0 ≤ valTo t k ∧ valTo t k < 1000000000000000000 := by
  have h1 := val_bd h
  have h2 := ten_le hk
  have h3 : (10 : Int) ^ 18 = 1000000000000000000 := by decide
  omega
theorem num_len {s t : ByteArray} (ht : tailS s = t) (h : inB (t.size : Int) 1 18 = false) : numOk s = false := by unfold numOk; rw [ht, h]; rfl
theorem num_dig {s t : ByteArray} (ht : tailS s = t) {k : Nat} (hk : k < t.size) (h : inB (chr t k) 48 57 = false) : numOk s = false := by
  unfold numOk
  have : allDig t = false := by unfold allDig; rw [List.all_eq_false]; exact ⟨k, List.mem_range.2 hk, by rw [h]; simp⟩
  rw [ht, this]; simp
theorem num_all {s t : ByteArray} (ht : tailS s = t) (h1 : inB (t.size : Int) 1 18 = true) (h : ∀ j, j < t.size → inB (chr t j) 48 57 = true) : numOk s = ((decT (numN s)).toList == s.toList) := by
  unfold numOk
  have : allDig t = true := by unfold allDig; rw [List.all_eq_true]; intro i hi; exact h i (List.mem_range.1 hi)
  rw [ht, this, h1]; rfl
theorem num_pos {s : ByteArray} (h : tailS s = s) : numN s = valTo s s.size := by unfold numN; rw [h, if_neg (by omega)]
theorem num_neg {s t : ByteArray} (ht : tailS s = t) (h : t.size < s.size) : numN s = -(valTo t t.size) := by unfold numN; rw [ht, if_pos h]
def ReadN (s : ByteArray) (w : World) (e : Ending) (w' : World) : Prop := e = .returned (.tuple #[.int .i64 (bif numOk s then numN s else 0), .bool (numOk s)]) ∧ Below w.heap.size w w'
theorem tl_not {s : ByteArray} (h : s.toList = []) : s.size = 0 := by
  rw [ByteArray.toList_eq] at h
  have : (bl s).length = 0 := by unfold bl; rw [h]; rfl
  exact this
theorem tl_some {s : ByteArray} (h : 0 < s.size) : (s.toList == []) = false := by
  cases hb : (s.toList == []) with
  | false => rfl
  | true => exact absurd (tl_not (by simpa using hb)) (by omega)
--NUM
set_option maxHeartbeats 8000000 in
set_option maxRecDepth 100000 in
theorem c_impl_ReadDecimal (s : ByteArray) (w : World) (hs : s.size ≤ 100000000) (ht : Tab w) :
    Calls Tryz.prog 127 #[.string s] w fun e w' => ReadN s w e w' := by
  have HT := Lib.hid ht
  clear ht
  have HX0 : Hid (∀ w', 0 < s.size → (Instr.index 9 (.string s) (.int .i64 0)).run Tryz.prog w' = .ok (.int .u8 (chr s 0)) w') := fun w' h => by
    rw [run_index_string _ _ _ _ _ Tryz.underlying9, dif_pos ⟨by omega, by omega⟩]
    congr 2
    exact chr_at (s := s) (i := 0) h
  by_cases hz : s.size = 0
  · have ht : tailS s = s := by unfold tailS; rw [if_neg (by omega)]
    have HF : Hid (numOk s = false) := num_len ht (by rw [hz]; rfl)
    have hse : s = ⟨#[]⟩ := bl_inj (List.eq_nil_of_length_eq_zero hz)
    subst hse
    go_enter Tryz.func127, Tryz.ntmps127
    go_wp2
    go_ret2
    exact ⟨by rw [HF.out]; rfl, Below.refl _ _⟩
  · have hpos : 0 < s.size := by omega
    have hposI : (0 : Int) < (s.size : Int) := by omega
    have hx0 := fun w' => HX0.out w' hpos
    have htl := tl_some hpos
    by_cases hneg : chr s 0 = 45
    · have ht0 : tailS s = s.extract 1 s.size := by unfold tailS; rw [if_pos ⟨hpos, hneg⟩]
      rw [hneg] at hx0
      have hsl : ∀ w', (Instr.slice 9 (.string s) (some (.int .i64 1)) none none).run Tryz.prog w' = .ok (.string (s.extract 1 s.size)) w' := fun w' => by
        rw [run_slice_string_from_if (h := Tryz.underlying9), if_pos (by omega)]
        congr 3
      have hts := ext_size s 1 s.size (Nat.le_refl _)
      obtain ⟨t, ht⟩ : ∃ t, s.extract 1 s.size = t := ⟨_, rfl⟩
      rw [ht] at ht0 hsl hts
      have hlt0 : t.size < s.size := by omega
      have hltI : (t.size : Int) < (s.size : Int) := by omega
      have HNG := Lib.hid (num_neg ht0 hlt0)
      have HDG := Lib.hid (fun k hk h => num_dig (k := k) ht0 hk h)
      have HAL := Lib.hid (fun h1 h => num_all ht0 h1 h)
      have HLN := Lib.hid (fun h => num_len ht0 h)
      clear ht ht0 hneg hts
      have arm : True := trivial
      have HVL := Lib.hid (fun k h1 h2 => val_lo (t := t) (k := k) h1 h2)
      have HVH := Lib.hid (fun k h1 h2 => val_hi (t := t) (k := k) h1 h2)
      cases hin : inB (t.size : Int) 1 18
      · have HF := Lib.hid (HLN.out hin)
        by_cases h0 : t.size = 0
        · have h0I : (t.size : Int) = 0 := by omega
          have h0L : (t.size : Int) < 1 := by omega
          go_enter Tryz.func127, Tryz.ntmps127
          go_wp2_with (first | ((rw [hx0 _])) | ((rw [hsl _])))
          go_ret2
          exact ⟨by rw [HF.out]; rfl, Below.refl _ _⟩
        · have h18 : (18 : Int) < (t.size : Int) := by
            cases h : decide ((18 : Int) < (t.size : Int)) with
            | true => exact of_decide_eq_true h
            | false =>
              have := of_decide_eq_false h
              rw [inB_iff.2 ⟨by omega, by omega⟩] at hin
              cases hin
          have h0I : (t.size : Int) ≠ 0 := by omega
          have h0B : ((t.size : Int) == 0) = false := beq_eq_false_iff_ne.2 h0I
          have h0L : ¬ (t.size : Int) < 1 := by omega
          go_enter Tryz.func127, Tryz.ntmps127
          go_wp2_with (first | ((rw [hx0 _])) | ((rw [hsl _])))
          go_ret2
          exact ⟨by rw [HF.out]; rfl, Below.refl _ _⟩
      · have hib := inB_iff.1 hin
        have HA := Lib.hid (HAL.out hin)
        have h0I : (t.size : Int) ≠ 0 := by omega
        have h0B : ((t.size : Int) == 0) = false := beq_eq_false_iff_ne.2 h0I
        have h0L : ¬ (t.size : Int) < 1 := by omega
        have h18 : ¬ (18 : Int) < (t.size : Int) := by omega
        go_enter Tryz.func127, Tryz.ntmps127
        go_wp2_with (first | ((rw [hx0 _])) | ((rw [hsl _])))
        go_loopw [5, 28] (fun v i wr => ∃ k : Nat, k ≤ t.size ∧ v = .int .i64 (valTo t k) ∧ i = .int .i64 k ∧ Hid (∀ j, j < k → inB (chr t j) 48 57 = true) ∧ Below w.heap.size w wr) (fun _ i _ => t.size - (intOf i).toNat)
        case atStart => exact ⟨0, by omega, rfl, by go_num, fun j hj => by omega, Below.refl _ _⟩
        case round =>
          obtain ⟨k, hk, rfl, rfl, HC, BR⟩ := hrel
          by_cases hlt : k < t.size
          · have hin0 : (0 : Int) ≤ (k : Int) := by omega
            have hin1 : (k : Int) < (t.size : Int) := by omega
            have hix : ∀ w', (Instr.index 9 (.string t) (.int .i64 (k : Int))).run Tryz.prog w' = .ok (.int .u8 (chr t k)) w' := fun w' => by
              rw [run_index_string _ _ _ _ _ Tryz.underlying9, dif_pos ⟨hin0, hin1⟩]
              congr 2
              exact chr_at (s := t) (i := k) hlt
            have HDk := Lib.hid (HDG.out k hlt)
            have hvb := HVL.out k (by omega) HC.out
            have HVS : Hid (valTo t (k + 1) = 10 * valTo t k + (chr t k - 48)) := rfl
            obtain ⟨c, hc⟩ : ∃ c, Hid (chr t k = c) := ⟨_, Lib.hid rfl⟩
            rw [hc.out] at hix HDk HVS
            obtain ⟨v, hv⟩ : ∃ v, Hid (valTo t k = v) := ⟨_, Lib.hid rfl⟩
            rw [hv.out] at HVS hvb ⊢
            cases hdg : inB c 48 57
            · have HF := Lib.hid (HDk.out hdg)
              go_wp2_with (first | ((rw [hix _])) | (go_at_call 154; refine (c_impl_isDigit c _).mono ?_; rintro e w2 ⟨rfl, rfl⟩; rw [hdg]))
              go_ret2
              exact ⟨by rw [HF.out]; rfl, BR⟩
            · have hcb := inB_iff.1 hdg
              have hw : IntKind.u8.wrap (c - 48) = c - 48 := by rw [show IntKind.u8.wrap (c - 48) = (c - 48) % 256 by simp [IntKind.wrap, IntKind.bits, IntKind.signed]]; omega
              go_wp2_with (first | ((rw [hix _])) | (go_at_call 154; refine (c_impl_isDigit c _).mono ?_; rintro e w2 ⟨rfl, rfl⟩; rw [hdg]))
              go_roundw
              case rel => exact ⟨k + 1, by omega, by rw [HVS.out], by go_num, (fun j hj => by
                by_cases e : j = k
                · subst e; rw [hc.out]; exact hdg
                · exact HC.out j (by omega)), BR⟩
              case measure => simp [intOf]; omega
          · obtain rfl : k = t.size := by omega
            have HB := Lib.hid (HA.out HC.out)
            have hvb := HVH.out t.size (by omega) HC.out
            obtain ⟨v, hv⟩ : ∃ v, Hid (valTo t t.size = v) := ⟨_, Lib.hid rfl⟩
            rw [hv.out] at hvb HNG ⊢
            rw [HNG.out] at HB
            have hkn : ¬ (t.size : Int) < (t.size : Int) := by omega
            cases hbq : ((decT (-v)).toList == s.toList)
            · have HF : Hid (numOk s = false) := by unfold Hid; rw [HB.out, hbq]
              go_wp2_with fail
              refine (c_impl_Decimal (-v) _ (by omega) (tab_below HT.out BR)).mono ?_; rintro e w5 ⟨rfl, hb5⟩
              go_wp2
              go_ret2
              exact ⟨by rw [HF.out]; rfl, BR.tr hb5⟩
            · have HF : Hid (numOk s = true) := by unfold Hid; rw [HB.out, hbq]
              go_wp2_with fail
              refine (c_impl_Decimal (-v) _ (by omega) (tab_below HT.out BR)).mono ?_; rintro e w5 ⟨rfl, hb5⟩
              go_wp2
              go_ret2
              exact ⟨by rw [HF.out, HNG.out]; rfl, BR.tr hb5⟩
    · have ht0 : tailS s = s := by unfold tailS; rw [if_neg (by intro h; exact hneg h.2)]
      have hng : (chr s 0 == 45) = false := beq_eq_false_iff_ne.2 hneg
      have HNG := Lib.hid (num_pos ht0)
      have HDG := Lib.hid (fun k hk h => num_dig (k := k) ht0 hk h)
      have HAL := Lib.hid (fun h1 h => num_all ht0 h1 h)
      have HLN := Lib.hid (fun h => num_len ht0 h)
      clear ht0 hneg
      obtain ⟨c0, hc0⟩ : ∃ c0, Hid (chr s 0 = c0) := ⟨_, Lib.hid rfl⟩
      rw [hc0.out] at hx0 hng
      have hsl : True := trivial
      have HVL := Lib.hid (fun k h1 h2 => val_lo (t := s) (k := k) h1 h2)
      have HVH := Lib.hid (fun k h1 h2 => val_hi (t := s) (k := k) h1 h2)
      cases hin : inB (s.size : Int) 1 18
      · have HF := Lib.hid (HLN.out hin)
        by_cases h0 : s.size = 0
        · have h0I : (s.size : Int) = 0 := by omega
          have h0L : (s.size : Int) < 1 := by omega
          go_enter Tryz.func127, Tryz.ntmps127
          go_wp2_with (first | ((rw [hx0 _])) | ((rw [hsl _])))
          go_ret2
          exact ⟨by rw [HF.out]; rfl, Below.refl _ _⟩
        · have h18 : (18 : Int) < (s.size : Int) := by
            cases h : decide ((18 : Int) < (s.size : Int)) with
            | true => exact of_decide_eq_true h
            | false =>
              have := of_decide_eq_false h
              rw [inB_iff.2 ⟨by omega, by omega⟩] at hin
              cases hin
          have h0I : (s.size : Int) ≠ 0 := by omega
          have h0B : ((s.size : Int) == 0) = false := beq_eq_false_iff_ne.2 h0I
          have h0L : ¬ (s.size : Int) < 1 := by omega
          go_enter Tryz.func127, Tryz.ntmps127
          go_wp2_with (first | ((rw [hx0 _])) | ((rw [hsl _])))
          go_ret2
          exact ⟨by rw [HF.out]; rfl, Below.refl _ _⟩
      · have hib := inB_iff.1 hin
        have HA := Lib.hid (HAL.out hin)
        have h0I : (s.size : Int) ≠ 0 := by omega
        have h0B : ((s.size : Int) == 0) = false := beq_eq_false_iff_ne.2 h0I
        have h0L : ¬ (s.size : Int) < 1 := by omega
        have h18 : ¬ (18 : Int) < (s.size : Int) := by omega
        go_enter Tryz.func127, Tryz.ntmps127
        go_wp2_with (first | ((rw [hx0 _])) | ((rw [hsl _])))
        go_loopw [5, 28] (fun v i wr => ∃ k : Nat, k ≤ s.size ∧ v = .int .i64 (valTo s k) ∧ i = .int .i64 k ∧ Hid (∀ j, j < k → inB (chr s j) 48 57 = true) ∧ Below w.heap.size w wr) (fun _ i _ => s.size - (intOf i).toNat)
        case atStart => exact ⟨0, by omega, rfl, by go_num, fun j hj => by omega, Below.refl _ _⟩
        case round =>
          obtain ⟨k, hk, rfl, rfl, HC, BR⟩ := hrel
          by_cases hlt : k < s.size
          · have hin0 : (0 : Int) ≤ (k : Int) := by omega
            have hin1 : (k : Int) < (s.size : Int) := by omega
            have hix : ∀ w', (Instr.index 9 (.string s) (.int .i64 (k : Int))).run Tryz.prog w' = .ok (.int .u8 (chr s k)) w' := fun w' => by
              rw [run_index_string _ _ _ _ _ Tryz.underlying9, dif_pos ⟨hin0, hin1⟩]
              congr 2
              exact chr_at (s := s) (i := k) hlt
            have HDk := Lib.hid (HDG.out k hlt)
            have hvb := HVL.out k (by omega) HC.out
            have HVS : Hid (valTo s (k + 1) = 10 * valTo s k + (chr s k - 48)) := rfl
            obtain ⟨c, hc⟩ : ∃ c, Hid (chr s k = c) := ⟨_, Lib.hid rfl⟩
            rw [hc.out] at hix HDk HVS
            obtain ⟨v, hv⟩ : ∃ v, Hid (valTo s k = v) := ⟨_, Lib.hid rfl⟩
            rw [hv.out] at HVS hvb ⊢
            cases hdg : inB c 48 57
            · have HF := Lib.hid (HDk.out hdg)
              go_wp2_with (first | ((rw [hix _])) | (go_at_call 154; refine (c_impl_isDigit c _).mono ?_; rintro e w2 ⟨rfl, rfl⟩; rw [hdg]))
              go_ret2
              exact ⟨by rw [HF.out]; rfl, BR⟩
            · have hcb := inB_iff.1 hdg
              have hw : IntKind.u8.wrap (c - 48) = c - 48 := by rw [show IntKind.u8.wrap (c - 48) = (c - 48) % 256 by simp [IntKind.wrap, IntKind.bits, IntKind.signed]]; omega
              go_wp2_with (first | ((rw [hix _])) | (go_at_call 154; refine (c_impl_isDigit c _).mono ?_; rintro e w2 ⟨rfl, rfl⟩; rw [hdg]))
              go_roundw
              case rel => exact ⟨k + 1, by omega, by rw [HVS.out], by go_num, (fun j hj => by
                by_cases e : j = k
                · subst e; rw [hc.out]; exact hdg
                · exact HC.out j (by omega)), BR⟩
              case measure => simp [intOf]; omega
          · obtain rfl : k = s.size := by omega
            have HB := Lib.hid (HA.out HC.out)
            have hvb := HVH.out s.size (by omega) HC.out
            obtain ⟨v, hv⟩ : ∃ v, Hid (valTo s s.size = v) := ⟨_, Lib.hid rfl⟩
            rw [hv.out] at hvb HNG ⊢
            rw [HNG.out] at HB
            have hkn : ¬ (s.size : Int) < (s.size : Int) := by omega
            cases hbq : ((decT (v)).toList == s.toList)
            · have HF : Hid (numOk s = false) := by unfold Hid; rw [HB.out, hbq]
              go_wp2_with fail
              refine (c_impl_Decimal (v) _ (by omega) (tab_below HT.out BR)).mono ?_; rintro e w5 ⟨rfl, hb5⟩
              go_wp2
              go_ret2
              exact ⟨by rw [HF.out]; rfl, BR.tr hb5⟩
            · have HF : Hid (numOk s = true) := by unfold Hid; rw [HB.out, hbq]
              go_wp2_with fail
              refine (c_impl_Decimal (v) _ (by omega) (tab_below HT.out BR)).mono ?_; rintro e w5 ⟨rfl, hb5⟩
              go_wp2
              go_ret2
              exact ⟨by rw [HF.out, HNG.out]; rfl, BR.tr hb5⟩
set_option maxHeartbeats 8000000 in
set_option maxRecDepth 100000 in
theorem c_spec_l01Number (s : ByteArray) (w : World) (hs : s.size ≤ 100000000)  :
    Calls Tryz.prog 153 #[.string s] w fun e w' => ReadN s w e w' := by
  have HX0 : Hid (∀ w', 0 < s.size → (Instr.index 9 (.string s) (.int .i64 0)).run Tryz.prog w' = .ok (.int .u8 (chr s 0)) w') := fun w' h => by
    rw [run_index_string _ _ _ _ _ Tryz.underlying9, dif_pos ⟨by omega, by omega⟩]
    congr 2
    exact chr_at (s := s) (i := 0) h
  by_cases hz : s.size = 0
  · have ht : tailS s = s := by unfold tailS; rw [if_neg (by omega)]
    have HF : Hid (numOk s = false) := num_len ht (by rw [hz]; rfl)
    have hse : s = ⟨#[]⟩ := bl_inj (List.eq_nil_of_length_eq_zero hz)
    subst hse
    go_enter Tryz.func153, Tryz.ntmps153
    go_wp2
    go_ret2
    exact ⟨by rw [HF.out]; rfl, Below.refl _ _⟩
  · have hpos : 0 < s.size := by omega
    have hposI : (0 : Int) < (s.size : Int) := by omega
    have hx0 := fun w' => HX0.out w' hpos
    have htl := tl_some hpos
    by_cases hneg : chr s 0 = 45
    · have ht0 : tailS s = s.extract 1 s.size := by unfold tailS; rw [if_pos ⟨hpos, hneg⟩]
      rw [hneg] at hx0
      have hsl : ∀ w', (Instr.slice 9 (.string s) (some (.int .i64 1)) none none).run Tryz.prog w' = .ok (.string (s.extract 1 s.size)) w' := fun w' => by
        rw [run_slice_string_from_if (h := Tryz.underlying9), if_pos (by omega)]
        congr 3
      have hts := ext_size s 1 s.size (Nat.le_refl _)
      obtain ⟨t, ht⟩ : ∃ t, s.extract 1 s.size = t := ⟨_, rfl⟩
      rw [ht] at ht0 hsl hts
      have hlt0 : t.size < s.size := by omega
      have hltI : (t.size : Int) < (s.size : Int) := by omega
      have HNG := Lib.hid (num_neg ht0 hlt0)
      have HDG := Lib.hid (fun k hk h => num_dig (k := k) ht0 hk h)
      have HAL := Lib.hid (fun h1 h => num_all ht0 h1 h)
      have HLN := Lib.hid (fun h => num_len ht0 h)
      clear ht ht0 hneg hts
      have arm : True := trivial
      have HVL := Lib.hid (fun k h1 h2 => val_lo (t := t) (k := k) h1 h2)
      have HVH := Lib.hid (fun k h1 h2 => val_hi (t := t) (k := k) h1 h2)
      cases hin : inB (t.size : Int) 1 18
      · have HF := Lib.hid (HLN.out hin)
        by_cases h0 : t.size = 0
        · have h0I : (t.size : Int) = 0 := by omega
          have h0L : (t.size : Int) < 1 := by omega
          go_enter Tryz.func153, Tryz.ntmps153
          go_wp2_with (first | ((rw [hx0 _])) | ((rw [hsl _])))
          go_ret2
          exact ⟨by rw [HF.out]; rfl, Below.refl _ _⟩
        · have h18 : (18 : Int) < (t.size : Int) := by
            cases h : decide ((18 : Int) < (t.size : Int)) with
            | true => exact of_decide_eq_true h
            | false =>
              have := of_decide_eq_false h
              rw [inB_iff.2 ⟨by omega, by omega⟩] at hin
              cases hin
          have h0I : (t.size : Int) ≠ 0 := by omega
          have h0B : ((t.size : Int) == 0) = false := beq_eq_false_iff_ne.2 h0I
          have h0L : ¬ (t.size : Int) < 1 := by omega
          go_enter Tryz.func153, Tryz.ntmps153
          go_wp2_with (first | ((rw [hx0 _])) | ((rw [hsl _])))
          go_ret2
          exact ⟨by rw [HF.out]; rfl, Below.refl _ _⟩
      · have hib := inB_iff.1 hin
        have HA := Lib.hid (HAL.out hin)
        have h0I : (t.size : Int) ≠ 0 := by omega
        have h0B : ((t.size : Int) == 0) = false := beq_eq_false_iff_ne.2 h0I
        have h0L : ¬ (t.size : Int) < 1 := by omega
        have h18 : ¬ (18 : Int) < (t.size : Int) := by omega
        go_enter Tryz.func153, Tryz.ntmps153
        go_wp2_with (first | ((rw [hx0 _])) | ((rw [hsl _])))
        go_loopw [5, 6] (fun v i wr => ∃ k : Nat, k ≤ t.size ∧ v = .int .i64 (valTo t k) ∧ i = .int .i64 k ∧ Hid (∀ j, j < k → inB (chr t j) 48 57 = true) ∧ Below w.heap.size w wr) (fun _ i _ => t.size - (intOf i).toNat)
        case atStart => exact ⟨0, by omega, rfl, by go_num, fun j hj => by omega, Below.refl _ _⟩
        case round =>
          obtain ⟨k, hk, rfl, rfl, HC, BR⟩ := hrel
          by_cases hlt : k < t.size
          · have hin0 : (0 : Int) ≤ (k : Int) := by omega
            have hin1 : (k : Int) < (t.size : Int) := by omega
            have hix : ∀ w', (Instr.index 9 (.string t) (.int .i64 (k : Int))).run Tryz.prog w' = .ok (.int .u8 (chr t k)) w' := fun w' => by
              rw [run_index_string _ _ _ _ _ Tryz.underlying9, dif_pos ⟨hin0, hin1⟩]
              congr 2
              exact chr_at (s := t) (i := k) hlt
            have HDk := Lib.hid (HDG.out k hlt)
            have hvb := HVL.out k (by omega) HC.out
            have HVS : Hid (valTo t (k + 1) = 10 * valTo t k + (chr t k - 48)) := rfl
            obtain ⟨c, hc⟩ : ∃ c, Hid (chr t k = c) := ⟨_, Lib.hid rfl⟩
            rw [hc.out] at hix HDk HVS
            obtain ⟨v, hv⟩ : ∃ v, Hid (valTo t k = v) := ⟨_, Lib.hid rfl⟩
            rw [hv.out] at HVS hvb ⊢
            cases hdg : inB c 48 57
            · have HF := Lib.hid (HDk.out hdg)
              go_wp2_with (first | ((rw [hix _])) | (go_at_call 164; refine (c_spec_l01Digit c _).mono ?_; rintro e w2 ⟨rfl, rfl⟩; rw [hdg]))
              go_ret2
              exact ⟨by rw [HF.out]; rfl, BR⟩
            · have hcb := inB_iff.1 hdg
              have hw : IntKind.u8.wrap (c - 48) = c - 48 := by rw [show IntKind.u8.wrap (c - 48) = (c - 48) % 256 by simp [IntKind.wrap, IntKind.bits, IntKind.signed]]; omega
              go_wp2_with (first | ((rw [hix _])) | (go_at_call 164; refine (c_spec_l01Digit c _).mono ?_; rintro e w2 ⟨rfl, rfl⟩; rw [hdg]))
              go_roundw
              case rel => exact ⟨k + 1, by omega, by rw [HVS.out], by go_num, (fun j hj => by
                by_cases e : j = k
                · subst e; rw [hc.out]; exact hdg
                · exact HC.out j (by omega)), BR⟩
              case measure => simp [intOf]; omega
          · obtain rfl : k = t.size := by omega
            have HB := Lib.hid (HA.out HC.out)
            have hvb := HVH.out t.size (by omega) HC.out
            obtain ⟨v, hv⟩ : ∃ v, Hid (valTo t t.size = v) := ⟨_, Lib.hid rfl⟩
            rw [hv.out] at hvb HNG ⊢
            rw [HNG.out] at HB
            have hkn : ¬ (t.size : Int) < (t.size : Int) := by omega
            cases hbq : ((decT (-v)).toList == s.toList)
            · have HF : Hid (numOk s = false) := by unfold Hid; rw [HB.out, hbq]
              go_wp2_with fail
              refine (c_spec_l01Dec (-v) _ (by omega)).mono ?_; rintro e w5 ⟨rfl, hb5⟩
              go_wp2
              go_ret2
              exact ⟨by rw [HF.out]; rfl, BR.tr hb5⟩
            · have HF : Hid (numOk s = true) := by unfold Hid; rw [HB.out, hbq]
              go_wp2_with fail
              refine (c_spec_l01Dec (-v) _ (by omega)).mono ?_; rintro e w5 ⟨rfl, hb5⟩
              go_wp2
              go_ret2
              exact ⟨by rw [HF.out, HNG.out]; rfl, BR.tr hb5⟩
    · have ht0 : tailS s = s := by unfold tailS; rw [if_neg (by intro h; exact hneg h.2)]
      have hng : (chr s 0 == 45) = false := beq_eq_false_iff_ne.2 hneg
      have HNG := Lib.hid (num_pos ht0)
      have HDG := Lib.hid (fun k hk h => num_dig (k := k) ht0 hk h)
      have HAL := Lib.hid (fun h1 h => num_all ht0 h1 h)
      have HLN := Lib.hid (fun h => num_len ht0 h)
      clear ht0 hneg
      obtain ⟨c0, hc0⟩ : ∃ c0, Hid (chr s 0 = c0) := ⟨_, Lib.hid rfl⟩
      rw [hc0.out] at hx0 hng
      have hsl : True := trivial
      have HVL := Lib.hid (fun k h1 h2 => val_lo (t := s) (k := k) h1 h2)
      have HVH := Lib.hid (fun k h1 h2 => val_hi (t := s) (k := k) h1 h2)
      cases hin : inB (s.size : Int) 1 18
      · have HF := Lib.hid (HLN.out hin)
        by_cases h0 : s.size = 0
        · have h0I : (s.size : Int) = 0 := by omega
          have h0L : (s.size : Int) < 1 := by omega
          go_enter Tryz.func153, Tryz.ntmps153
          go_wp2_with (first | ((rw [hx0 _])) | ((rw [hsl _])))
          go_ret2
          exact ⟨by rw [HF.out]; rfl, Below.refl _ _⟩
        · have h18 : (18 : Int) < (s.size : Int) := by
            cases h : decide ((18 : Int) < (s.size : Int)) with
            | true => exact of_decide_eq_true h
            | false =>
              have := of_decide_eq_false h
              rw [inB_iff.2 ⟨by omega, by omega⟩] at hin
              cases hin
          have h0I : (s.size : Int) ≠ 0 := by omega
          have h0B : ((s.size : Int) == 0) = false := beq_eq_false_iff_ne.2 h0I
          have h0L : ¬ (s.size : Int) < 1 := by omega
          go_enter Tryz.func153, Tryz.ntmps153
          go_wp2_with (first | ((rw [hx0 _])) | ((rw [hsl _])))
          go_ret2
          exact ⟨by rw [HF.out]; rfl, Below.refl _ _⟩
      · have hib := inB_iff.1 hin
        have HA := Lib.hid (HAL.out hin)
        have h0I : (s.size : Int) ≠ 0 := by omega
        have h0B : ((s.size : Int) == 0) = false := beq_eq_false_iff_ne.2 h0I
        have h0L : ¬ (s.size : Int) < 1 := by omega
        have h18 : ¬ (18 : Int) < (s.size : Int) := by omega
        go_enter Tryz.func153, Tryz.ntmps153
        go_wp2_with (first | ((rw [hx0 _])) | ((rw [hsl _])))
        go_loopw [5, 6] (fun v i wr => ∃ k : Nat, k ≤ s.size ∧ v = .int .i64 (valTo s k) ∧ i = .int .i64 k ∧ Hid (∀ j, j < k → inB (chr s j) 48 57 = true) ∧ Below w.heap.size w wr) (fun _ i _ => s.size - (intOf i).toNat)
        case atStart => exact ⟨0, by omega, rfl, by go_num, fun j hj => by omega, Below.refl _ _⟩
        case round =>
          obtain ⟨k, hk, rfl, rfl, HC, BR⟩ := hrel
          by_cases hlt : k < s.size
          · have hin0 : (0 : Int) ≤ (k : Int) := by omega
            have hin1 : (k : Int) < (s.size : Int) := by omega
            have hix : ∀ w', (Instr.index 9 (.string s) (.int .i64 (k : Int))).run Tryz.prog w' = .ok (.int .u8 (chr s k)) w' := fun w' => by
              rw [run_index_string _ _ _ _ _ Tryz.underlying9, dif_pos ⟨hin0, hin1⟩]
              congr 2
              exact chr_at (s := s) (i := k) hlt
            have HDk := Lib.hid (HDG.out k hlt)
            have hvb := HVL.out k (by omega) HC.out
            have HVS : Hid (valTo s (k + 1) = 10 * valTo s k + (chr s k - 48)) := rfl
            obtain ⟨c, hc⟩ : ∃ c, Hid (chr s k = c) := ⟨_, Lib.hid rfl⟩
            rw [hc.out] at hix HDk HVS
            obtain ⟨v, hv⟩ : ∃ v, Hid (valTo s k = v) := ⟨_, Lib.hid rfl⟩
            rw [hv.out] at HVS hvb ⊢
            cases hdg : inB c 48 57
            · have HF := Lib.hid (HDk.out hdg)
              go_wp2_with (first | ((rw [hix _])) | (go_at_call 164; refine (c_spec_l01Digit c _).mono ?_; rintro e w2 ⟨rfl, rfl⟩; rw [hdg]))
              go_ret2
              exact ⟨by rw [HF.out]; rfl, BR⟩
            · have hcb := inB_iff.1 hdg
              have hw : IntKind.u8.wrap (c - 48) = c - 48 := by rw [show IntKind.u8.wrap (c - 48) = (c - 48) % 256 by simp [IntKind.wrap, IntKind.bits, IntKind.signed]]; omega
              go_wp2_with (first | ((rw [hix _])) | (go_at_call 164; refine (c_spec_l01Digit c _).mono ?_; rintro e w2 ⟨rfl, rfl⟩; rw [hdg]))
              go_roundw
              case rel => exact ⟨k + 1, by omega, by rw [HVS.out], by go_num, (fun j hj => by
                by_cases e : j = k
                · subst e; rw [hc.out]; exact hdg
                · exact HC.out j (by omega)), BR⟩
              case measure => simp [intOf]; omega
          · obtain rfl : k = s.size := by omega
            have HB := Lib.hid (HA.out HC.out)
            have hvb := HVH.out s.size (by omega) HC.out
            obtain ⟨v, hv⟩ : ∃ v, Hid (valTo s s.size = v) := ⟨_, Lib.hid rfl⟩
            rw [hv.out] at hvb HNG ⊢
            rw [HNG.out] at HB
            have hkn : ¬ (s.size : Int) < (s.size : Int) := by omega
            cases hbq : ((decT (v)).toList == s.toList)
            · have HF : Hid (numOk s = false) := by unfold Hid; rw [HB.out, hbq]
              go_wp2_with fail
              refine (c_spec_l01Dec (v) _ (by omega)).mono ?_; rintro e w5 ⟨rfl, hb5⟩
              go_wp2
              go_ret2
              exact ⟨by rw [HF.out]; rfl, BR.tr hb5⟩
            · have HF : Hid (numOk s = true) := by unfold Hid; rw [HB.out, hbq]
              go_wp2_with fail
              refine (c_spec_l01Dec (v) _ (by omega)).mono ?_; rintro e w5 ⟨rfl, hb5⟩
              go_wp2
              go_ret2
              exact ⟨by rw [HF.out, HNG.out]; rfl, BR.tr hb5⟩
--END NUM
end Go.Proofs.YtioemkdapoombaaGreatDoor
