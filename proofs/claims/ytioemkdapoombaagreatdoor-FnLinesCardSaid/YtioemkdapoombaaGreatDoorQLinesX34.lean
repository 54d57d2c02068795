/- The law LinesX: what it rests on, part 34 of 46. -/
import Derived.Test.YtioemkdapoombaaGreatDoorQLinesX33
namespace Go.Proofs.YtioemkdapoombaaGreatDoor
open Go.ChangeShapes Go.WideShapes Go.ChangeAt Go.RowKit
set_option linter.unusedSimpArgs false
set_option linter.unusedVariables false
set_option maxHeartbeats 4000000 in
set_option maxRecDepth 100000 in
theorem c_spec_ReadState (s : ByteArray) (w : World) (hs : s.size ≤ 100000000) :
    Calls Tryz.prog 99 #[.string s] w fun e w' => e = .returned (.tuple #[.agg #[.int .i64 (bif rsB s then (s.size : Int) else 0), .int .i64 (bif rsB s then rsM s s.size else 0)], .bool (rsB s)]) ∧ Below w.heap.size w w' := by
  obtain ⟨W1, hW1, k0, k1, g0, g1, B1⟩ := twoStates w 25 0 0 (s.size : Int) 0
  have f0 : W1.frozen? ⟨w.heap.size, 0, none⟩ = false := by rw [hW1]; go_simp
  have f1 : W1.frozen? ⟨w.heap.size, 1, none⟩ = false := by rw [hW1]; go_simp
  have e1 : W1.frozen? ⟨w.heap.size + 1, 1, none⟩ = false := by rw [hW1]; go_simp
  cases hin : inB (s.size : Int) 1 10
  · have HB : Hid (rsB s = false) := by unfold Hid rsB; rw [hin]; rfl
    rw [HB.out]
    obtain ⟨X0, X1, -, hg⟩ := set2 W1 w.heap.size (.int .i64 0) (.int .i64 0) _ _ k0 k1
    have BZ := (B1.setCell (p := ⟨w.heap.size, 0, none⟩) (Nat.le_refl _) (.int .i64 0)).setCell (p := ⟨w.heap.size, 1, none⟩) (Nat.le_refl _) (.int .i64 0)
    go_enter Tryz.func99, Tryz.ntmps99
    go_wp2_with fail
    rw [← hW1]
    clear hW1
    refine (c_spec_l08Height (s.size : Int) _).mono ?_; rintro e w1 ⟨rfl, rfl⟩; rw [hin]
    go_wp2
    generalize ((W1.setCell ⟨w.heap.size, 0, none⟩ (.int .i64 0)).setCell ⟨w.heap.size, 1, none⟩ (.int .i64 0)) = wz at *
    exact bodyPost_ret (v := .tuple #[.agg #[.int .i64 0, .int .i64 0], .bool false]) (by simp [results, Tryz.results99, go_sem, X0, X1]) rfl ⟨rfl, BZ⟩
  · have hsb := inB_iff.1 hin
    have HRB : Hid (rsB s = rsA s) := by unfold Hid rsB; rw [hin]; rfl
    have HAN := Lib.hid (fun k hk h0 h1 => rsA_no (s := s) (k := k) hk h0 h1)
    have HOR := Lib.hid (fun k h1 h2 => or_rs (s := s) (k := k) h1 h2)
    have HR0 : Hid (∀ k, chr s k ≠ 49 → rsM s (k + 1) = rsM s k) := fun k hk => by show (if _ then _ else _) = _; rw [if_neg hk]
    have HRD := Lib.hid (rsM_bd s)
    go_enter Tryz.func99, Tryz.ntmps99
    go_wp2_with fail
    rw [← hW1]
    clear hW1
    refine (c_spec_l08Height (s.size : Int) _).mono ?_; rintro e w1 ⟨rfl, rfl⟩; rw [hin]
    go_wp2
    obtain ⟨g, hg⟩ : ∃ g, w.heap.size + 1 = g := ⟨_, rfl⟩
    have hgw : w.heap.size < g := by omega
    rw [hg] at g0 g1 e1 ⊢
    clear hg
    go_loopw [5] (fun i wr => ∃ k : Nat, k ≤ s.size ∧ i = .int .i64 k ∧ Hid (∀ i, i < k → chr s i = 48 ∨ chr s i = 49) ∧ wr.cell? ⟨w.heap.size, 0, none⟩ = some (.int .i64 0) ∧ wr.cell? ⟨w.heap.size, 1, none⟩ = some (.int .i64 0) ∧ wr.cell? ⟨g, 0, none⟩ = some (.int .i64 (s.size : Int)) ∧ wr.cell? ⟨g, 1, none⟩ = some (.int .i64 (rsM s k)) ∧
      wr.frozen? ⟨w.heap.size, 0, none⟩ = false ∧ wr.frozen? ⟨w.heap.size, 1, none⟩ = false ∧ wr.frozen? ⟨g, 1, none⟩ = false ∧ Below w.heap.size w wr) (fun i _ => s.size - (intOf i).toNat)
    case atStart => exact ⟨0, by omega, by go_num, fun i hi => by omega, k0, k1, g0, g1, f0, f1, e1, B1⟩
    case round =>
      clear k0 k1 g0 g1 f0 f1 e1 B1
      obtain ⟨k, hk, rfl, HCH, k0, k1, g0, g1, f0, f1, e1, BR⟩ := hrel
      by_cases hlt : k < s.size
      · have hin0 : (0 : Int) ≤ (k : Int) := by omega
        have hin1 : (k : Int) < (s.size : Int) := by omega
        have hcd := chr_bd s k
        have hix : ∀ w', (Instr.index 9 (.string s) (.int .i64 (k : Int))).run Tryz.prog w' = .ok (.int .u8 (chr s k)) w' := fun w' => by
          rw [run_index_string _ _ _ _ _ Tryz.underlying9, dif_pos ⟨hin0, hin1⟩]
          congr 2
          exact chr_at (s := s) (i := k) hlt
        have HN0 := Lib.hid (HAN.out k hlt)
        have HO := Lib.hid (HOR.out k)
        have H0 := Lib.hid (HR0.out k)
        have hrb := HRD.out k
        obtain ⟨c, hc⟩ : ∃ c, Hid (chr s k = c) := ⟨_, Lib.hid rfl⟩
        rw [hc.out] at hix hcd HN0 HO H0
        by_cases h48 : c = 48
        · subst h48
          have HX := Lib.hid (H0.out (by decide))
          go_wp2_with (rw [hix _])
          go_roundw
          case rel => exact ⟨k + 1, by omega, by go_num, fun i hi => by
            by_cases e : i = k
            · subst e; exact Or.inl hc.out
            · exact HCH.out i (by omega), k0, k1, g0, by rw [HX.out]; exact g1, f0, f1, e1, BR⟩
          case measure => simp [intOf]; omega
        · by_cases h49 : c = 49
          · subst h49
            have HX := Lib.hid (HO.out rfl (by omega))
            have hp1 := pow_le_1024 k (by omega)
            have hp2 := pow_pos_int k
            have hw : wrap64 (2 ^ k) = 2 ^ k := by unfold wrap64; omega
            go_wp2_with (rw [hix _])
            go_roundw
            case rel => exact ⟨k + 1, by omega, by go_num, (fun i hi => by
              by_cases e : i = k
              · subst e; exact Or.inr hc.out
              · exact HCH.out i (by omega)), cell_setO (by omega) k0, cell_setO (by omega) k1, by rw [World.cell?_setCell_other _ _ _ _ (by simp)]; exact g0, by rw [HX.out]; exact World.cell?_setCell_same _ _ _ g1, by rw [World.frozen?_setCell]; exact f0, by rw [World.frozen?_setCell]; exact f1, by rw [World.frozen?_setCell]; exact e1, BR.setCell (p := ⟨g, 1, none⟩) (show w.heap.size ≤ g by omega) _⟩
            case measure => simp [intOf]; omega
          · have HF := Lib.hid (HN0.out h48 h49)
            have t1 : (c == 48) = false := beq_eq_false_iff_ne.2 h48
            have t2 : (c == 49) = false := beq_eq_false_iff_ne.2 h49
            obtain ⟨X0, X1, -, hg⟩ := set2 wr w.heap.size (.int .i64 0) (.int .i64 0) _ _ k0 k1
            have BZ := (BR.setCell (p := ⟨w.heap.size, 0, none⟩) (Nat.le_refl _) (.int .i64 0)).setCell (p := ⟨w.heap.size, 1, none⟩) (Nat.le_refl _) (.int .i64 0)
            go_wp2_with (rw [hix _])
            generalize ((wr.setCell ⟨w.heap.size, 0, none⟩ (.int .i64 0)).setCell ⟨w.heap.size, 1, none⟩ (.int .i64 0)) = wz at *
            exact bodyPost_ret (v := .tuple #[.agg #[.int .i64 0, .int .i64 0], .bool false]) (by simp [results, Tryz.results99, go_sem, X0, X1]) rfl ⟨by rw [HRB.out, HF.out]; rfl, BZ⟩
      · obtain rfl : k = s.size := by omega
        have HY := Lib.hid (rsA_yes (s := s) HCH.out)
        obtain ⟨M, hM⟩ : ∃ M, Hid (rsM s s.size = M) := ⟨_, Lib.hid rfl⟩
        rw [hM.out] at g1
        obtain ⟨X0, X1, -, hg⟩ := set2 wr w.heap.size (.int .i64 (s.size : Int)) (.int .i64 M) _ _ k0 k1
        have BZ := (BR.setCell (p := ⟨w.heap.size, 0, none⟩) (Nat.le_refl _) (.int .i64 (s.size : Int))).setCell (p := ⟨w.heap.size, 1, none⟩) (Nat.le_refl _) (.int .i64 M)
        go_wp2
        generalize ((wr.setCell ⟨w.heap.size, 0, none⟩ (.int .i64 (s.size : Int))).setCell ⟨w.heap.size, 1, none⟩ (.int .i64 M)) = wz at *
        exact bodyPost_ret (v := .tuple #[.agg #[.int .i64 (s.size : Int), .int .i64 M], .bool true]) (by simp [results, Tryz.results99, go_sem, X0, X1]) rfl ⟨by rw [HRB.out, HY.out, hM.out]; rfl, BZ⟩
def digB (s : ByteArray) : Bool := (digsTo s s.size).all (fun x => decide (0 ≤ x)) && decide (0 < s.size)
theorem okDig_thr {s : ByteArray} : okThrows (digsTo s s.size) = okDig s := by
  unfold okThrows okDig
  rw [digsTo_len]
  congr 1
  rw [Bool.eq_iff_iff, List.all_eq_true, List.all_eq_true]
  constructor
  · intro h x hx
    have := h x hx
    exact decide_eq_true (inB_iff.1 this).1
  · intro h x hx
    have h1 := of_decide_eq_true (h x hx)
    exact inB_iff.2 ⟨h1, (digsTo_bd s s.size x hx).2⟩
theorem okDig_len {s : ByteArray} (h : okDig s = true) : 1 ≤ s.size ∧ s.size ≤ 12 := by
  unfold okDig at h
  rw [Bool.and_eq_true] at h
  have := inB_iff.1 h.2
  omega
theorem okDig_digB {s : ByteArray} : okDig s = (digB s && decide (s.size ≤ 12)) := by
  unfold okDig digB
  rw [Bool.and_assoc]
  congr 1
  rw [Bool.eq_iff_iff, inB_iff]
  simp; omega
theorem okDig_bd {s : ByteArray} (h : okDig s = true) : ∀ x ∈ digsTo s s.size, 0 ≤ x ∧ x ≤ 15 := by
  rw [← okDig_thr, okThrows_iff] at h
  exact h.1
set_option maxHeartbeats 2000000 in
theorem c_impl_readThrows (s : ByteArray) (w : World) (hs : s.size ≤ 12) :
    Calls Tryz.prog 155 #[.string s] w fun e w' => ∃ v, e = .returned (.tuple #[v, .bool (okDig s)]) ∧ OwnI1 w.heap.size w' v (digsTo s s.size) ∧ Below w.heap.size w w' := by
  have HSU := Lib.hid (digsTo_succ s)
  have HLN := Lib.hid (digsTo_len s)
  have HOK := Lib.hid (okDig_thr (s := s))
  have hsI : ¬ (12 : Int) < (s.size : Int) := by omega
  go_enter Tryz.func155, Tryz.ntmps155
  go_wp2
  go_loopw [4, 12] (fun out i wr => ∃ k : Nat, k ≤ s.size ∧ i = .int .i64 k ∧ (∃ ad m cap, out = .slice (some ad) m cap) ∧ OwnI1 w.heap.size wr out (digsTo s k) ∧ Below w.heap.size w wr) (fun _ i _ => s.size - (intOf i).toNat)
  case atStart => exact ⟨0, by omega, by go_num, ⟨_, _, _, rfl⟩, OwnI.made rfl rfl (Nat.le_refl _), (Below.refl _ _).al _⟩
  case round =>
    obtain ⟨k, hk, rfl, ⟨ad, m, cap, rfl⟩, hown, BR⟩ := hrel
    by_cases hlt : k < s.size
    · have hin0 : (0 : Int) ≤ (k : Int) := by omega
      have hin1 : (k : Int) < (s.size : Int) := by omega
      have hcd := chr_bd s k
      have hix : ∀ w', (Instr.index 9 (.string s) (.int .i64 (k : Int))).run Tryz.prog w' = .ok (.int .u8 (chr s k)) w' := fun w' => by
        rw [run_index_string _ _ _ _ _ Tryz.underlying9, dif_pos ⟨hin0, hin1⟩]
        congr 2
        exact chr_at (s := s) (i := k) hlt
      have HSk := Lib.hid (HSU.out k)
      have HLk := Lib.hid (HLN.out k)
      go_wp2_with (first | ((rw [hix _])) | (go_at_call 126; refine (c_impl_hexOf (chr s k) _ hcd).mono ?_; rintro e w2 ⟨rfl, rfl⟩) | (at_builtin; refine push_int rfl _ _ _ _ rfl Tryz.underlying26 infoI w.heap.size (.slice (some ad) m cap) (digsTo s k) (digC (chr s k)) _ rfl rfl (by exact hown) (by rw [HLk.out]; omega) (by exact BR.size) ?_; intro v3 w3 ho3 hb3 hs3))
      go_roundw
      case rel => exact ⟨k + 1, by omega, by go_num, (by obtain ⟨b3, cap4, e3, -⟩ := OwnI.some_of ho3 (by simp); exact ⟨_, _, _, e3⟩), by rw [HSk.out]; exact ho3, hb3 _ BR⟩
      case measure => simp [intOf]; omega
    · obtain rfl : k = s.size := by omega
      have hrd := OwnI.rd hown
      go_wp2_with fail
      refine (c_impl_areThrows (digsTo s s.size) _ _ hrd).mono ?_; rintro e w2 ⟨rfl, rfl⟩
      go_wp2
      go_ret2
      exact ⟨_, by rw [← HOK.out]; rfl, hown, BR⟩
set_option maxHeartbeats 2000000 in
theorem c_impl_ReadPattern (s : ByteArray) (w : World) (hs : s.size ≤ 12) :
    Calls Tryz.prog 128 #[.string s] w fun e w' => ∃ v, e = .returned (.tuple #[v, .bool (validP (digsTo s s.size))]) ∧ (validP (digsTo s s.size) = true → OwnI1 w.heap.size w' v (digsTo s s.size)) ∧ Below w.heap.size w w' := by
  obtain ⟨b, HB⟩ : ∃ b, Hid (validP (digsTo s s.size) = b) := ⟨_, Lib.hid rfl⟩
  rw [HB.out]
  go_enter Tryz.func128, Tryz.ntmps128
  go_wp2_with fail
  refine (c_impl_readThrows s _ hs).mono ?_; rintro e w1 ⟨v, rfl, ho1, hb1⟩
  have hrd := OwnI.rd ho1
  go_wp2_with fail
  refine (c_impl_ValidPattern (digsTo s s.size) _ _ hrd).mono ?_; rintro e w2 ⟨rfl, hb2⟩; rw [HB.out]
  have hv2 : OwnI1 w.heap.size w2 v (digsTo s s.size) := OwnI.below ho1 hb2
  have hb3 := hb1.tr hb2
  cases b
  · go_wp2
    go_ret2
    exact ⟨_, rfl, by simp, hb3⟩
  · go_wp2
    go_ret2
    exact ⟨_, rfl, hv2, hb3⟩
set_option maxHeartbeats 2000000 in
theorem c_spec_l27R_digits (s : ByteArray) (p : Value) (w : World) (hs : s.size ≤ 100000000) :
    Calls Tryz.prog 123 #[p, .string s] w fun e w' => ∃ v, e = .returned (.tuple #[v, .bool (digB s)]) ∧ (digB s = true → OwnI1 w.heap.size w' v (digsTo s s.size)) ∧ Below w.heap.size w w' := by
  obtain ⟨L, HL⟩ : ∃ L, Hid (digsTo s s.size = L) := ⟨_, Lib.hid rfl⟩
  have hLn : L.length = s.size := by rw [← HL.out]; exact digsTo_len s s.size
  have HDB : Hid (digB s = (L.all (fun x => decide (0 ≤ x)) && decide (0 < s.size))) := by rw [← HL.out]; rfl
  rw [HL.out]
  go_enter Tryz.func123, Tryz.ntmps123
  go_wp2_with fail
  refine (c_spec_l02Read s _ hs).mono ?_; rintro e w1 ⟨v, rfl, ho1, hb1⟩; rw [HL.out] at ho1
  obtain ⟨ad, cap, rfl, hl, hcc⟩ := OwnI.rd ho1
  have HO := Lib.hid ho1
  have HCC := Lib.hid hcc
  clear ho1 hcc
  clear HL
  rw [hLn] at hl HO ⊢
  go_wp2
  go_loopw [7] (fun i wr => ∃ k : Nat, k ≤ s.size ∧ i = .int .i64 k ∧ Hid (∀ j, j < k → 0 ≤ L.getD j 0) ∧ w1 = wr) (fun i _ => s.size - (intOf i).toNat)
  case atStart => exact ⟨0, by omega, by go_num, fun j hj => by omega, rfl⟩
  case round =>
    obtain ⟨k, hk, rfl, HA, rfl⟩ := hrel
    by_cases hlt : k < s.size
    · have hin0 : (0 : Int) ≤ (k : Int) := by omega
      have hin1 : (k : Int) < (s.size : Int) := by omega
      obtain ⟨b, off, rfl, hcell⟩ := HCC.out k (by omega)
      by_cases h0 : L.getD k 0 < 0
      · have HF : Hid (digB s = false) := by
          unfold Hid
          rw [HDB.out, Bool.and_eq_false_iff]; left
          rw [List.all_eq_false]
          exact ⟨L.getD k 0, getD_mem' (by omega), by rw [decide_eq_true_eq]; omega⟩
        obtain ⟨x, hx⟩ : ∃ x, L.getD k 0 = x := ⟨_, rfl⟩
        rw [hx] at hcell h0
        clear hx
        go_wp2
        go_ret2
        exact ⟨_, by rw [HF.out]; rfl, by rw [HF.out]; simp, hb1⟩
      · have H0 := Lib.hid h0
        obtain ⟨x, hx⟩ : ∃ x, L.getD k 0 = x := ⟨_, rfl⟩
        rw [hx] at hcell h0
        clear hx
        go_wp2
        go_roundw
        case rel => exact ⟨k + 1, by omega, by go_num, (fun j hj => by
          by_cases e : j = k
          · subst e; have := H0.out; omega
          · exact HA.out j (by omega)), by trivial⟩
        case measure => simp [intOf]; omega
    · obtain rfl : k = s.size := by omega
      have HT : Hid (digB s = decide (0 < s.size)) := by
        unfold Hid
        rw [HDB.out]
        have : L.all (fun x => decide (0 ≤ x)) = true := by
          rw [List.all_eq_true]
          intro x hx
          obtain ⟨j, hj, rfl⟩ := List.getElem_of_mem hx
          have := HA.out j (by omega)
          have e : L.getD j 0 = L[j] := by simp [List.getD, hj]
          rw [e] at this
          exact decide_eq_true this
        rw [this]; rfl
      have hkn : ¬ (s.size : Int) < (s.size : Int) := by omega
      go_wp2
      go_ret2
      exact ⟨_, by rw [HT.out]; simp, fun _ => HO.out, hb1⟩
end Go.Proofs.YtioemkdapoombaaGreatDoor
