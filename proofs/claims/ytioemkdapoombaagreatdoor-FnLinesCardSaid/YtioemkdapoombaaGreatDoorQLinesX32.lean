/- The law LinesX: what it rests on, part 32 of 46. -/
import Derived.Test.YtioemkdapoombaaGreatDoorQLinesX06
import Derived.Test.YtioemkdapoombaaGreatDoorQLinesX13
namespace Go.Proofs.YtioemkdapoombaaGreatDoor
open Go.ChangeShapes Go.WideShapes Go.ChangeAt Go.RowKit
set_option linter.unusedSimpArgs false
set_option linter.unusedVariables false
theorem cell_setO {a : World} {bl o g' j : Nat} {v u : Value} (hne : g' ≠ bl) (k : a.cell? ⟨bl, o, none⟩ = some v) : (a.setCell ⟨g', j, none⟩ u).cell? ⟨bl, o, none⟩ = some v := by
  rw [World.cell?_setCell_other _ _ _ _ (by intro e; cases e; exact hne rfl)]; exact k
/-- the mask of the first k bytes of a text -/
def rsM (s : ByteArray) : Nat → Int
  | 0 => 0
  | k + 1 => if chr s k = 49 then (((rsM s k).toNat ||| 2 ^ k : Nat) : Int) else rsM s k
theorem rsM_bd (s : ByteArray) : ∀ k, 0 ≤ rsM s k ∧ rsM s k < ((2 ^ k : Nat) : Int)
  | 0 => by simp [rsM]
  | k + 1 => by
    have ih := rsM_bd s k
    have h2 : 2 ^ (k + 1) = 2 ^ k + 2 ^ k := by rw [Nat.pow_succ]; omega
    unfold rsM
    split
    · have h3 : (rsM s k).toNat < 2 ^ (k + 1) := by omega
      have h4 := Nat.or_lt_two_pow h3 (show 2 ^ k < 2 ^ (k + 1) by omega)
      exact ⟨Int.natCast_nonneg _, Int.ofNat_lt.2 h4⟩
    · omega
theorem or_rs {s : ByteArray} {k : Nat} (hc : chr s k = 49) (hk : k < 11) : bits .or .i64 (rsM s k) (2 ^ k) = rsM s (k + 1) := by
  have h1 := rsM_bd s k
  have h2 := pow_pos_int k
  have h3 : (2 : Int) ^ k ≤ 1024 := pow_le_1024 k (by omega)
  have h4 : ((2 ^ k : Nat) : Int) = (2 : Int) ^ k := by simp
  rw [or_i64 _ _ (by omega) (by omega)]
  show _ = (if chr s k = 49 then (((rsM s k).toNat ||| 2 ^ k : Nat) : Int) else rsM s k)
  rw [if_pos hc, show ((2 : Int) ^ k).toNat = 2 ^ k by omega]
def rsA (s : ByteArray) : Bool := (List.range s.size).all fun i => chr s i == 48 || chr s i == 49
def rsB (s : ByteArray) : Bool := inB (s.size : Int) 1 10 && rsA s
theorem rsA_no {s : ByteArray} {k : Nat} (hk : k < s.size) (h0 : chr s k ≠ 48) (h1 : chr s k ≠ 49) : rsA s = false := by
  unfold rsA
  rw [List.all_eq_false]
  exact ⟨k, List.mem_range.2 hk, by simp [h0, h1]⟩
theorem rsA_yes {s : ByteArray} (h : ∀ i, i < s.size → chr s i = 48 ∨ chr s i = 49) : rsA s = true := by
  unfold rsA
  rw [List.all_eq_true]
  intro i hi
  rcases h i (List.mem_range.1 hi) with h1 | h1 <;> simp [h1]
set_option maxHeartbeats 4000000 in
set_option maxRecDepth 100000 in
theorem c_impl_ReadState (s : ByteArray) (w : World) (hs : s.size ≤ 100000000) :
    Calls Tryz.prog 98 #[.string s] w fun e w' => e = .returned (.tuple #[.agg #[.int .i64 (bif rsB s then (s.size : Int) else 0), .int .i64 (bif rsB s then rsM s s.size else 0)], .bool (rsB s)]) ∧ Below w.heap.size w w' := by
  obtain ⟨W0, hW0, k0, k1, B0⟩ := oneState w 25 0 0
  have f0 : W0.frozen? ⟨w.heap.size, 0, none⟩ = false := by rw [hW0]; go_simp
  have f1 : W0.frozen? ⟨w.heap.size, 1, none⟩ = false := by rw [hW0]; go_simp
  cases hin : inB (s.size : Int) 1 10
  · have HB : Hid (rsB s = false) := by unfold Hid rsB; rw [hin]; rfl
    rw [HB.out]
    obtain ⟨X0, X1, -, hg⟩ := set2 W0 w.heap.size (.int .i64 0) (.int .i64 0) _ _ k0 k1
    have BZ := (B0.setCell (p := ⟨w.heap.size, 0, none⟩) (Nat.le_refl _) (.int .i64 0)).setCell (p := ⟨w.heap.size, 1, none⟩) (Nat.le_refl _) (.int .i64 0)
    go_enter Tryz.func98, Tryz.ntmps98
    go_wp2_with fail
    rw [← hW0]
    clear hW0
    refine (c_impl_isHeight (s.size : Int) _).mono ?_; rintro e w1 ⟨rfl, rfl⟩; rw [hin]
    go_wp2
    generalize ((W0.setCell ⟨w.heap.size, 0, none⟩ (.int .i64 0)).setCell ⟨w.heap.size, 1, none⟩ (.int .i64 0)) = wz at *
    exact bodyPost_ret (v := .tuple #[.agg #[.int .i64 0, .int .i64 0], .bool false]) (by simp [results, Tryz.results98, go_sem, X0, X1]) rfl ⟨rfl, BZ⟩
  · have hsb := inB_iff.1 hin
    have HRB : Hid (rsB s = rsA s) := by unfold Hid rsB; rw [hin]; rfl
    have HAN := Lib.hid (fun k hk h0 h1 => rsA_no (s := s) (k := k) hk h0 h1)
    have HOR := Lib.hid (fun k h1 h2 => or_rs (s := s) (k := k) h1 h2)
    have HR0 : Hid (∀ k, chr s k ≠ 49 → rsM s (k + 1) = rsM s k) := fun k hk => by show (if _ then _ else _) = _; rw [if_neg hk]
    have HRD := Lib.hid (rsM_bd s)
    go_enter Tryz.func98, Tryz.ntmps98
    go_wp2_with fail
    rw [← hW0]
    have hs0 : w.heap.size + 1 = W0.heap.size := by rw [hW0]; simp
    clear hW0
    refine (c_impl_isHeight (s.size : Int) _).mono ?_; rintro e w1 ⟨rfl, rfl⟩; rw [hin]
    obtain ⟨W1, hW1⟩ : ∃ W1, W1 = W0.alloc (Obj.cells #[.int .i64 (s.size : Int), .int .i64 0] 25) := ⟨_, rfl⟩
    have g0 : W1.cell? ⟨W0.heap.size, 0, none⟩ = some (.int .i64 (s.size : Int)) := by rw [hW1]; exact World.cell?_alloc_at _ _ _ _ rfl
    have g1 : W1.cell? ⟨W0.heap.size, 1, none⟩ = some (.int .i64 0) := by rw [hW1]; exact World.cell?_alloc_at _ _ _ _ rfl
    have e1 : W1.frozen? ⟨W0.heap.size, 1, none⟩ = false := by rw [hW1]; exact World.frozen?_alloc_at _ _ _ _ rfl
    have hb1 : Below W0.heap.size W0 W1 := by rw [hW1]; exact (Below.refl _ _).al _
    have f0 := frozenc hb1 k0 f0
    have f1 := frozenc hb1 k1 f1
    have k0 := keepc hb1 k0
    have k1 := keepc hb1 k1
    have B1 := B0.tr hb1
    go_wp2
    rw [← hW1]
    clear hW1
    obtain ⟨g, hg⟩ : ∃ g, W0.heap.size = g := ⟨_, rfl⟩
    rw [hg] at g0 g1 e1 hs0 ⊢
    have hgw : w.heap.size < g := by omega
    go_loopw [16] (fun i wr => ∃ k : Nat, k ≤ s.size ∧ i = .int .i64 k ∧ Hid (∀ i, i < k → chr s i = 48 ∨ chr s i = 49) ∧ wr.cell? ⟨w.heap.size, 0, none⟩ = some (.int .i64 0) ∧ wr.cell? ⟨w.heap.size, 1, none⟩ = some (.int .i64 0) ∧ wr.cell? ⟨g, 0, none⟩ = some (.int .i64 (s.size : Int)) ∧ wr.cell? ⟨g, 1, none⟩ = some (.int .i64 (rsM s k)) ∧
      wr.frozen? ⟨w.heap.size, 0, none⟩ = false ∧ wr.frozen? ⟨w.heap.size, 1, none⟩ = false ∧ wr.frozen? ⟨g, 1, none⟩ = false ∧ Below w.heap.size w wr) (fun i _ => s.size - (intOf i).toNat)
    case atStart => exact ⟨0, by omega, by go_num, fun i hi => by omega, k0, k1, g0, g1, f0, f1, e1, B1⟩
    case round =>
      clear k0 k1 g0 g1 f0 f1 e1 B1
      obtain ⟨k, hk, rfl, HCH, k0, k1, g0, g1, f0, f1, e1, BR⟩ := hrel
      by_cases hlt : k < s.size
      · have hin0 : (0 : Int) ≤ (k : Int) := by omega
        have hin1 : (k : Int) < (s.size : Int) := by omega
        have hcd := chr_bd s k
        have hix : ∀ w', (Instr.index 9 (.string s) (.int .i64 (k : Int))).run Tryz.prog w' = .ok (.int .u8 (chr s k)) w' := fun w' => by
          rw [run_index_string _ _ _ _ _ Tryz.underlying9, dif_pos ⟨hin0, hin1⟩]
          congr 2
          exact chr_at (s := s) (i := k) hlt
        have HN0 := Lib.hid (HAN.out k hlt)
        have HO := Lib.hid (HOR.out k)
        have H0 := Lib.hid (HR0.out k)
        have hrb := HRD.out k
        obtain ⟨c, hc⟩ : ∃ c, Hid (chr s k = c) := ⟨_, Lib.hid rfl⟩
        rw [hc.out] at hix hcd HN0 HO H0
        by_cases h48 : c = 48
        · subst h48
          have HX := Lib.hid (H0.out (by decide))
          go_wp2_with (rw [hix _])
          go_roundw
          case rel => exact ⟨k + 1, by omega, by go_num, fun i hi => by
            by_cases e : i = k
            · subst e; exact Or.inl hc.out
            · exact HCH.out i (by omega), k0, k1, g0, by rw [HX.out]; exact g1, f0, f1, e1, BR⟩
          case measure => simp [intOf]; omega
        · by_cases h49 : c = 49
          · subst h49
            have HX := Lib.hid (HO.out rfl (by omega))
            have hp1 := pow_le_1024 k (by omega)
            have hp2 := pow_pos_int k
            have hw : wrap64 (2 ^ k) = 2 ^ k := by unfold wrap64; omega
            go_wp2_with (rw [hix _])
            go_roundw
            case rel => exact ⟨k + 1, by omega, by go_num, (fun i hi => by
              by_cases e : i = k
              · subst e; exact Or.inr hc.out
              · exact HCH.out i (by omega)), cell_setO (by omega) k0, cell_setO (by omega) k1, by rw [World.cell?_setCell_other _ _ _ _ (by simp)]; exact g0, by rw [HX.out]; exact World.cell?_setCell_same _ _ _ g1, by rw [World.frozen?_setCell]; exact f0, by rw [World.frozen?_setCell]; exact f1, by rw [World.frozen?_setCell]; exact e1, BR.setCell (p := ⟨g, 1, none⟩) (show w.heap.size ≤ g by omega) _⟩
            case measure => simp [intOf]; omega
          · have HF := Lib.hid (HN0.out h48 h49)
            have t1 : (c == 48) = false := beq_eq_false_iff_ne.2 h48
            have t2 : (c == 49) = false := beq_eq_false_iff_ne.2 h49
            obtain ⟨X0, X1, -, hg⟩ := set2 wr w.heap.size (.int .i64 0) (.int .i64 0) _ _ k0 k1
            have BZ := (BR.setCell (p := ⟨w.heap.size, 0, none⟩) (Nat.le_refl _) (.int .i64 0)).setCell (p := ⟨w.heap.size, 1, none⟩) (Nat.le_refl _) (.int .i64 0)
            go_wp2_with (rw [hix _])
            generalize ((wr.setCell ⟨w.heap.size, 0, none⟩ (.int .i64 0)).setCell ⟨w.heap.size, 1, none⟩ (.int .i64 0)) = wz at *
            exact bodyPost_ret (v := .tuple #[.agg #[.int .i64 0, .int .i64 0], .bool false]) (by simp [results, Tryz.results98, go_sem, X0, X1]) rfl ⟨by rw [HRB.out, HF.out]; rfl, BZ⟩
      · obtain rfl : k = s.size := by omega
        have HY := Lib.hid (rsA_yes (s := s) HCH.out)
        obtain ⟨M, hM⟩ : ∃ M, Hid (rsM s s.size = M) := ⟨_, Lib.hid rfl⟩
        rw [hM.out] at g1
        obtain ⟨X0, X1, -, hg⟩ := set2 wr w.heap.size (.int .i64 (s.size : Int)) (.int .i64 M) _ _ k0 k1
        have BZ := (BR.setCell (p := ⟨w.heap.size, 0, none⟩) (Nat.le_refl _) (.int .i64 (s.size : Int))).setCell (p := ⟨w.heap.size, 1, none⟩) (Nat.le_refl _) (.int .i64 M)
        go_wp2
        generalize ((wr.setCell ⟨w.heap.size, 0, none⟩ (.int .i64 (s.size : Int))).setCell ⟨w.heap.size, 1, none⟩ (.int .i64 M)) = wz at *
        exact bodyPost_ret (v := .tuple #[.agg #[.int .i64 (s.size : Int), .int .i64 M], .bool true]) (by simp [results, Tryz.results98, go_sem, X0, X1]) rfl ⟨by rw [HRB.out, HY.out, hM.out]; rfl, BZ⟩
end Go.Proofs.YtioemkdapoombaaGreatDoor
