/- The law WrittenX: what it rests on, part 19 of 46. -/
import Derived.Deep.RegionHeld3
import Derived.Test.YtioemkdapoombaaGreatDoorQWrittenX04
import Derived.Test.YtioemkdapoombaaGreatDoorQWrittenX07
import Derived.Test.YtioemkdapoombaaGreatDoorQWrittenX18
namespace Go.Proofs.YtioemkdapoombaaGreatDoor
open Go.ChangeShapes Go.WideShapes Go.ChangeAt Go.RowKit
set_option linter.unusedVariables false
set_option linter.unusedSimpArgs false
theorem infoTx : (Tryz.prog.info? 9).map (fun i => (i.zero, i.size, i.bytes)) = some (some (.string ⟨#[]⟩), 1, 16) := by kernel_rfl
theorem rowT_ones (s : ByteArray) : ∀ u ∈ rowT s, u.oneCell' = true := by
  intro u hu
  simp only [rowT, List.mem_singleton] at hu
  subst hu; rfl
theorem btx_bd (m : Int) (k : Nat) : 48 ≤ btxN m k ∧ btxN m k ≤ 49 := by
  unfold btxN
  have := Int.emod_nonneg (m / 2 ^ k) (show (2 : Int) ≠ 0 by decide)
  have := Int.emod_lt_of_pos (m / 2 ^ k) (show (0 : Int) < 2 by decide)
  omega
set_option maxHeartbeats 2000000 in
set_option maxRecDepth 100000 in
theorem c_impl_StateText (h m : Int) (w : World) (hv : validB h m = true) :
    Calls Tryz.prog 39 #[.agg #[.int .i64 h, .int .i64 m]] w fun e w' => e = .returned (.string (stT h m)) ∧ Below w.heap.size w w' := by
  obtain ⟨W0, hW0, k0, k1, B0⟩ := oneState w 25 h m
  have hbd := valid_bd hv
  have HST : Hid (stT h m = strOfNums (btxTo m h.toNat)) := rfl
  go_enter Tryz.func39, Tryz.ntmps39
  go_wp2_with fail
  rw [← hW0]
  clear hW0
  refine (c_impl_ValidState h m _).mono ?_; rintro e w1 ⟨rfl, hb1⟩; rw [hv]
  have k0 := keepc hb1 k0
  have k1 := keepc hb1 k1
  have B1 := B0.tr hb1
  have hz1 : w.heap.size < w1.heap.size := World.block_lt_of_cell? w1 _ k0
  clear hv
  go_wp2
  go_loopw [3, 11] (fun s i wr => ∃ k : Nat, k ≤ h.toNat ∧ i = .int .i64 k ∧ OwnB w1.heap.size wr.heap.size wr s (btxTo m k) ∧ wr.cell? ⟨w.heap.size, 0, none⟩ = some (.int .i64 h) ∧ wr.cell? ⟨w.heap.size, 1, none⟩ = some (.int .i64 m) ∧ Below w.heap.size w wr ∧ w1.heap.size ≤ wr.heap.size) (fun _ i _ => h.toNat - (intOf i).toNat)
  case atStart => exact ⟨0, by omega, rfl, (OwnRow.made rfl rfl (Nat.le_refl _)).tight, al_c _ k0, al_c _ k1, B1.al _, by rw [World.size_alloc]; omega⟩
  case round =>
    clear k0 k1
    obtain ⟨k, hk, rfl, ho, k0, k1, hb, hs⟩ := hrel
    by_cases hlt : k < h.toNat
    · have hlt2 : (k : Int) < h := by omega
      have HT := Lib.hid (btxTo_succ m k)
      have hll : (btxTo m k).length < 1000000000 := by rw [btxTo_len]; omega
      have hdb := div_bd m k hbd.2
      have HB2 : Hid (48 + bits .and .i64 (m / 2 ^ k) 1 = btxN m k) := by unfold Hid btxN; rw [and_one _ hdb.1 (by omega)]
      have hand : 0 ≤ bits .and .i64 (m / 2 ^ k) 1 ∧ bits .and .i64 (m / 2 ^ k) 1 ≤ 1 := by rw [and_one _ hdb.1 (by omega)]; omega
      have hnb := btx_bd m k
      obtain ⟨c, HC⟩ : ∃ c, Hid (btxN m k = c) := ⟨_, Lib.hid rfl⟩
      rw [HC.out] at HT HB2 hnb
      obtain ⟨x, HX⟩ : ∃ x, Hid (bits .and .i64 (m / 2 ^ k) 1 = x) := ⟨_, Lib.hid rfl⟩
      rw [HX.out] at HB2 hand
      have hx := HX.out
      have hlo := World.ownsRow.lt ho.1
      obtain rfl : 48 + x = c := HB2.out
      go_wp2_with (at_builtin; refine push_row_at (row := rowB) rfl _ _ _ _ rfl Tryz.underlying22 (.int .u8 0) 1 infoB rfl (by decide) (by decide) rowB_len w1.heap.size _ _ _ (48 + x) #[.int .u8 (48 + x)] _ rfl (rowB_one _) rfl rfl (by exact ho) hll (by omega) ?_; intro v' w5 hown5 hbel5 hs5 hg5 hat5)
      go_roundw
      case rel => exact ⟨k + 1, by omega, by go_num, by rw [HT.out]; exact hown5, grown_c hg5 k0 (fun e => by have := (hlo _ e).1; have := B1.size; omega), grown_c hg5 k1 (fun e => by have := (hlo _ e).1; omega), hb.grown hg5 hb.size (fun q hq => Nat.le_trans (by omega : w.heap.size ≤ w1.heap.size) (hlo q hq).1), by omega⟩
      case measure => simp [intOf]; omega
    · obtain rfl : k = h.toNat := by omega
      have hlt2 : ¬ ((h.toNat : Nat) : Int) < h := by omega
      have hcv := conv_own ho
      rw [← HST.out] at hcv
      go_wp2
      go_ret
      exact ⟨rfl, hb⟩
theorem btx_zero (m : Int) (k : Nat) (h : bitB m k = false) : strOfNums (btxTo m (k + 1)) = strOfNums (btxTo m k) ++ ⟨#[48]⟩ := by
  have e : btxN m k = 48 := by
    have := btx_bd m k
    unfold bitB at h
    have h2 := of_decide_eq_false h
    unfold btxN at *
    simp only [Int.toNat_natCast] at h2
    omega
  rw [btxTo_succ, strOfNums_append, e]; rfl
theorem btx_one (m : Int) (k : Nat) (h : bitB m k = true) : strOfNums (btxTo m (k + 1)) = strOfNums (btxTo m k) ++ ⟨#[49]⟩ := by
  have e : btxN m k = 49 := by
    unfold bitB at h
    have h2 := of_decide_eq_true h
    unfold btxN
    simp only [Int.toNat_natCast] at h2
    omega
  rw [btxTo_succ, strOfNums_append, e]; rfl
theorem stT_size (h m : Int) : (stT h m).size = h.toNat := by unfold stT; rw [strOfNums_size, btxTo_len]
set_option maxHeartbeats 2000000 in
set_option maxRecDepth 100000 in
theorem c_spec_l08Text (h m : Int) (w : World) (hv : validB h m = true) :
    Calls Tryz.prog 64 #[.agg #[.int .i64 h, .int .i64 m]] w fun e w' => e = .returned (.string (stT h m)) ∧ Below w.heap.size w w' := by
  obtain ⟨W0, hW0, k0, k1, B0⟩ := oneState w 25 h m
  have hbd := valid_bd hv
  have HST : Hid (stT h m = strOfNums (btxTo m h.toNat)) := rfl
  have HSZ := Lib.hid (fun k => (strOfNums_size (btxTo m k)).trans (btxTo_len m k))
  clear hv
  go_enter Tryz.func64, Tryz.ntmps64
  go_wp2
  rw [← hW0]
  clear hW0
  go_loopw [3, 4] (fun s i wr => ∃ k : Nat, k ≤ h.toNat ∧ i = .int .i64 k ∧ s = .string (strOfNums (btxTo m k)) ∧ wr.cell? ⟨w.heap.size, 0, none⟩ = some (.int .i64 h) ∧ wr.cell? ⟨w.heap.size, 1, none⟩ = some (.int .i64 m) ∧ Below w.heap.size w wr) (fun _ i _ => h.toNat - (intOf i).toNat)
  case atStart => exact ⟨0, by omega, rfl, rfl, k0, k1, B0⟩
  case round =>
    clear k0 k1
    obtain ⟨k, hk, rfl, rfl, k0, k1, hb⟩ := hrel
    by_cases hlt : k < h.toNat
    · have hlt2 : (k : Int) < h := by omega
      have hsz := HSZ.out k
      obtain ⟨S, HS⟩ : ∃ S, Hid (strOfNums (btxTo m k) = S) := ⟨_, Lib.hid rfl⟩
      have hn : ¬ (9223372036854775807 < k + 1) := by omega
      cases hbit : bitB m k
      · have HN := Lib.hid (btx_zero m k hbit)
        rw [HS.out] at HN hsz ⊢
        have hsa : (S ++ ⟨#[48]⟩).size = k + 1 := by rw [ByteArray.size_append, hsz]; rfl
        go_wp2_with (go_at_call 71; refine (c_spec_l08Bit _ _ _ hbd.2 (by omega)).mono ?_; rintro e w1 ⟨rfl, rfl⟩)
        go_roundw
        case rel => exact ⟨k + 1, by omega, by go_num, by rw [HN.out], k0, k1, hb⟩
        case measure => simp [intOf]; omega
      · have HN := Lib.hid (btx_one m k hbit)
        rw [HS.out] at HN hsz ⊢
        have hsa : (S ++ ⟨#[49]⟩).size = k + 1 := by rw [ByteArray.size_append, hsz]; rfl
        go_wp2_with (go_at_call 71; refine (c_spec_l08Bit _ _ _ hbd.2 (by omega)).mono ?_; rintro e w1 ⟨rfl, rfl⟩)
        go_roundw
        case rel => exact ⟨k + 1, by omega, by go_num, by rw [HN.out], k0, k1, hb⟩
        case measure => simp [intOf]; omega
    · obtain rfl : k = h.toNat := by omega
      have hlt2 : ¬ ((h.toNat : Nat) : Int) < h := by omega
      rw [← HST.out]
      go_wp2
      go_ret
      exact ⟨rfl, hb⟩
theorem c_hexDt (xs : List Int) (D : ByteArray) (hD : hexT xs = D) (v : Value) (w : World) (h : RdI w v xs) (hx : ∀ x ∈ xs, 0 ≤ x ∧ x < 16) (hl : xs.length < 1000000) :
    Calls Tryz.prog 75 #[v] w fun e w' => e = .returned (.string D) ∧ Below w.heap.size w w' := by
  subst hD; exact c_impl_hexDigits xs v w h hx hl
theorem c_textDt (xs : List Int) (D : ByteArray) (hD : hexT xs = D) (v : Value) (w : World) (h : RdI w v xs) (hx : ∀ x ∈ xs, 0 ≤ x ∧ x < 16) :
    Calls Tryz.prog 51 #[v] w fun e w' => e = .returned (.string D) ∧ Below w.heap.size w w' := by
  subst hD; exact c_spec_l02Text xs v w h hx
def lenV : Value → Nat
  | .slice _ n _ => n
  | _ => 0
/-- the next line: what is taken, and what is left -/
theorem chop (xs : List Int) (k n : Nat) (hn : n = min (xs.length - 12 * k) 12) : (xs.drop (12 * k)).take n = (xs.drop (12 * k)).take 12 ∧ (xs.drop (12 * k)).drop n = xs.drop (12 * (k + 1)) := by
  subst hn
  refine ⟨?_, ?_⟩
  · by_cases h : xs.length - 12 * k ≤ 12
    · rw [List.take_of_length_le (by rw [List.length_drop]; omega), List.take_of_length_le (by rw [List.length_drop]; omega)]
    · congr 1; omega
  · rw [List.drop_drop]
    by_cases h : xs.length - 12 * k ≤ 12
    · rw [List.drop_eq_nil_of_le (by omega), List.drop_eq_nil_of_le (by omega)]
    · congr 1; omega
theorem line_hex {xs : List Int} (hx : ∀ x ∈ xs, 0 ≤ x ∧ x < 16) (k : Nat) : ∀ x ∈ (xs.drop (12 * k)).take 12, 0 ≤ x ∧ x < 16 := fun x h => hx x (List.mem_of_mem_drop (List.mem_of_mem_take h))
set_option maxHeartbeats 4000000 in
set_option maxRecDepth 100000 in
theorem c_impl_throwLines (xs : List Int) (v : Value) (w : World) (h : RdC w v xs) (hx : ∀ x ∈ xs, 0 ≤ x ∧ x < 16) (hl : xs.length ≤ 2000000) :
    Calls Tryz.prog 40 #[v] w fun e w' => ∃ u, e = .returned u ∧ OwnT w.heap.size w'.heap.size w' u (thrL xs) ∧ Below w.heap.size w w' := by
  have H := Lib.hid h
  have HX := Lib.hid hx
  have HTL := Lib.hid (linTo_len xs)
  have HTS := Lib.hid (linTo_succ xs)
  have HCH := Lib.hid (chop xs)
  have HLA : Hid (∀ k, lineAt xs k = thrS ++ hexT ((xs.drop (12 * k)).take 12)) := fun _ => rfl
  clear h hx
  go_enter Tryz.func40, Tryz.ntmps40
  go_wp2
  go_loopw [0, 3] (fun v o wr => ∃ k : Nat, k ≤ thrN xs.length ∧ RdC w v (xs.drop (12 * k)) ∧ OwnT w.heap.size wr.heap.size wr o (linTo xs k) ∧ Below w.heap.size w wr) (fun v _ _ => lenV v)
  case atStart => exact ⟨0, Nat.zero_le _, H.out, (OwnRow.made rfl rfl (Nat.le_refl _)).tight, by (repeat (first | (with_reducible assumption) | (with_reducible exact Below.refl _ _) | (with_reducible refine Below.setCell ?_ (by first | (simp; done) | (simp; omega)) _) | (with_reducible refine Below.al ?_ _) | (with_reducible refine Below.dr ?_) | (with_reducible refine Below.drN ?_ _) | (with_reducible refine Below.tr ?_ (by with_reducible assumption))))⟩
  case round =>
    obtain ⟨k, hk, hrc, ho, hb⟩ := hrel
    have hkl : (linTo xs k).length < 1000000000 := by rw [HTL.out]; unfold thrN at hk; omega
    have hk' := hk
    unfold thrN at hk'
    have HR := Lib.hid hrc
    obtain ⟨a, cap, rfl, hcap⟩ := hrc.2
    clear hrc
    have hbs := hb.size
    obtain ⟨L, HL⟩ : ∃ L, Hid ((xs.drop (12 * k)).length = L) := ⟨_, Lib.hid rfl⟩
    rw [HL.out] at hcap HR ⊢
    have hL2 : L = xs.length - 12 * k := by rw [← HL.out, List.length_drop]
    have HL2 := Lib.hid hL2
    by_cases hlt : 0 < L
    · have h12 : 12 * k < xs.length := by omega
      have hLl : L ≤ 2000000 := by omega
      obtain ⟨n, hn⟩ : ∃ n : Nat, n = min L 12 := ⟨_, rfl⟩
      have hn0 : (0 : Int) ≤ (n : Int) := by omega
      have hnL : (n : Int) ≤ (L : Int) := by omega
      have hn12 : n ≤ 12 := by omega
      have hnp : 0 < n := by omega
      obtain ⟨u1, hu1, hr1⟩ := cut_rI HR.out (n : Int) hn0 (by rw [HL.out]; exact hnL)
      obtain ⟨u2, hu2, hr2⟩ := cut_lI HR.out (n : Int) hn0 (by rw [HL.out]; exact hnL)
      have hch := HCH.out k n (by rw [hn, hL2])
      rw [Int.toNat_natCast] at hr1 hr2
      rw [hch.1] at hr1
      rw [hch.2] at hr2
      have HT := Lib.hid (HTS.out k)
      have HD0 := HLA.out k
      have HXD := Lib.hid (line_hex HX.out k)
      have hll : ((xs.drop (12 * k)).take 12).length ≤ 12 := List.length_take_le _ _
      have HR1 := Lib.hid hr1
      have HR2 := Lib.hid hr2
      obtain ⟨D, HD⟩ : ∃ D, Hid (hexT ((xs.drop (12 * k)).take 12) = D) := ⟨_, Lib.hid rfl⟩
      rw [HD.out] at HD0
      rw [HD0] at HT
      have hDs : D.size ≤ 12 := by rw [← HD.out, hexT_size]; exact hll
      unfold thrS at HT
      have hSs2 : ((⟨#[116, 104, 114, 111, 119, 32]⟩ : ByteArray) ++ D).size ≤ 18 := by rw [ByteArray.size_append]; show 6 + D.size ≤ 18; omega
      have hmin : (if (12 : Int) < (L : Int) then (12 : Int) else (L : Int)) = (n : Int) := by split <;> omega
      clear HD0 hr1 hr2 hch hL2 hn
      have HLn := Lib.hid hlt
      go_wp2_with fail
      refine (c_hexDt _ D HD.out _ _ (HR1.out.below hb).1 HXD.out (by omega)).mono ?_; rintro e w5 ⟨rfl, hb5⟩
      have hs5 := hb5.size
      have ho5 := ho.below hb5
      go_wp2_with (at_builtin; refine push_row (row := rowT) rfl _ _ _ _ rfl Tryz.underlying29 (.string ⟨#[]⟩) 16 infoTx rfl (by decide) (by decide) rowT_len w.heap.size _ _ _ ((⟨#[116, 104, 114, 111, 119, 32]⟩ : ByteArray) ++ D) #[.string ((⟨#[116, 104, 114, 111, 119, 32]⟩ : ByteArray) ++ D)] _ rfl (rowT_ones _) rfl rfl (by exact ho5) hkl (by omega) ?_; intro v' w6 hown6 hbel6 hs6)
      go_roundw
      case rel => exact ⟨k + 1, by unfold thrN; omega, HR2.out, by rw [HT.out]; exact hown6, hbel6 _ (hb.tr hb5)⟩
      case measure =>
        obtain ⟨a2, cap2, rfl, hcap2⟩ := HR2.out.2
        have := HL2.out
        simp only [lenV, List.length_drop]; omega
    · have hk2 : k = thrN xs.length := by unfold thrN; omega
      have HT : Hid (linTo xs k = thrL xs) := by rw [hk2]; rfl
      have hL0 : L = 0 := by omega
      subst hL0
      clear hk2
      go_wp2
      go_ret
      exact ⟨_, rfl, by rw [← HT.out]; exact ho, hb⟩
end Go.Proofs.YtioemkdapoombaaGreatDoor
