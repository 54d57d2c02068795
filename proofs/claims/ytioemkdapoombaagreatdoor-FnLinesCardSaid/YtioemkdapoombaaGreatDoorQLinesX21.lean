/- The law LinesX: what it rests on, part 21 of 46. -/
import Derived.Test.YtioemkdapoombaaGreatDoorQLinesX05
import Derived.Test.YtioemkdapoombaaGreatDoorQLinesX19
import Derived.Deep.RegionHeld3
import Derived.Test.YtioemkdapoombaaGreatDoorQLinesX03
import Derived.Test.YtioemkdapoombaaGreatDoorQLinesX06
import Derived.Test.YtioemkdapoombaaGreatDoorQLinesX20
section
namespace Go.Proofs.YtioemkdapoombaaGreatDoor
/-- the state behind the first k throws -/
def runM (m : Int) (xs : List Int) (k : Nat) : Int := (xs.take k).foldl nextM m
theorem runM_zero (m : Int) (xs : List Int) : runM m xs 0 = m := rfl
theorem runM_succ (m : Int) (xs : List Int) (k : Nat) (hk : k < xs.length) : runM m xs (k + 1) = nextM (runM m xs k) (xs.getD k 0) := by
  unfold runM
  rw [List.take_succ_eq_append_getElem hk, List.foldl_append]
  simp [List.getD, hk]
def canAt (h m : Int) (xs : List Int) (i : Nat) : Bool := canB h (runM m xs i) (xs.getD i 0)
/-- how many throws are possible one behind the other -/
def runN (h m : Int) (xs : List Int) : Nat := (List.range (xs.length + 1)).findIdx fun i => decide (xs.length ≤ i) || !canAt h m xs i
theorem runN_eq {h m : Int} {xs : List Int} {k : Nat} (hk : k ≤ xs.length) (hall : ∀ i, i < k → canAt h m xs i = true) (hno : k < xs.length → canAt h m xs k = false) : runN h m xs = k := by
  unfold runN
  rw [List.findIdx_eq (by rw [List.length_range]; omega)]
  refine ⟨?_, fun j hj => ?_⟩
  · rw [List.getElem_range]
    by_cases e : k < xs.length
    · simp [hno e]
    · simp; omega
  · rw [List.getElem_range]
    simp [hall j hj]; omega
theorem run_bd {h m : Int} {xs : List Int} (hv : validB h m = true) (k : Nat) (hk : k ≤ xs.length) (hall : ∀ i, i < k → canAt h m xs i = true) : 0 ≤ runM m xs k ∧ runM m xs k < 2 ^ h.toNat := by
  induction k with
  | zero => rw [runM_zero]; have := (validB_iff.1 hv).2; omega
  | succ k ih =>
    have hh := (validB_iff.1 hv).1
    have h1 := ih (by omega) (fun i hi => hall i (by omega))
    rw [runM_succ m xs k (by omega)]
    exact next_bd hh h1 (can_le (by omega) (hall k (by omega))).2
def runOk (h m : Int) (xs : List Int) : Bool := decide (runN h m xs = xs.length)
def runC (h m : Int) (xs : List Int) : Int := bif validB h m then (bif runOk h m xs then 0 else 6) else 1
def runH (h m : Int) : Int := bif validB h m then h else 0
def runS (h m : Int) (xs : List Int) : Int := bif validB h m then runM m xs (runN h m xs) else 0
def runI (h m : Int) (xs : List Int) : Int := bif validB h m then (runN h m xs : Int) else 0
theorem runN_all {h m : Int} {xs : List Int} (hr : runOk h m xs = true) : ∀ i, i < xs.length → canAt h m xs i = true := by
  intro i hi
  unfold runOk runN at hr
  have hr := of_decide_eq_true hr
  rw [List.findIdx_eq (by rw [List.length_range]; omega)] at hr
  have := hr.2 i hi
  rw [List.getElem_range] at this
  simp at this
  exact this.2
theorem run_hex {h m : Int} {xs : List Int} (hv : validB h m = true) (hr : runOk h m xs = true) : ∀ x ∈ xs, 0 ≤ x ∧ x < 16 := by
  intro x hx
  obtain ⟨i, hi, rfl⟩ := List.getElem_of_mem hx
  have hh := (validB_iff.1 hv).1
  have := can_le (by omega) (runN_all hr i hi)
  simp [List.getD, hi] at this
  omega
/-- the text of a state -/
def btxN (m : Int) (t : Nat) : Int := 48 + m / 2 ^ t % 2
def btxTo (m : Int) (k : Nat) : List Int := (List.range k).map (btxN m)
def stT (h m : Int) : ByteArray := strOfNums (btxTo m h.toNat)
theorem btxTo_succ (m : Int) (k : Nat) : btxTo m (k + 1) = btxTo m k ++ [btxN m k] := by simp [btxTo, List.range_succ]
theorem btxTo_len (m : Int) (k : Nat) : (btxTo m k).length = k := by simp [btxTo]
/-- lines with throws, twelve in each -/
def thrS : ByteArray := ⟨#[116, 104, 114, 111, 119, 32]⟩
def lineAt (xs : List Int) (i : Nat) : ByteArray := thrS ++ hexT ((xs.drop (12 * i)).take 12)
def linTo (xs : List Int) (k : Nat) : List ByteArray := (List.range k).map (lineAt xs)
def thrN (n : Nat) : Nat := (n + 11) / 12
def thrL (xs : List Int) : List ByteArray := linTo xs (thrN xs.length)
theorem linTo_succ (xs : List Int) (k : Nat) : linTo xs (k + 1) = linTo xs k ++ [lineAt xs k] := by simp [linTo, List.range_succ]
theorem linTo_len (xs : List Int) (k : Nat) : (linTo xs k).length = k := by simp [linTo]
theorem thrL_len (xs : List Int) : (thrL xs).length = thrN xs.length := linTo_len _ _
theorem part_eq (xs : List Int) (i e : Nat) (hi : i < xs.length) (he : e = if xs.length > i + 12 then i + 12 else xs.length) : (xs.take e).drop i = (xs.drop i).take 12 := by
  rw [List.drop_take]
  subst he
  split
  · congr 1; omega
  · rw [List.take_of_length_le (by rw [List.length_drop]; omega), List.take_of_length_le (by rw [List.length_drop]; omega)]
def staS : ByteArray := ⟨#[115, 116, 97, 114, 116, 32]⟩
def endS : ByteArray := ⟨#[101, 110, 100]⟩
def linC (h m : Int) (xs : List Int) : Int := bif validB h m then (bif runOk h m xs then (bif decide (xs.length ≤ 696) then 0 else 5) else 6) else 1
def linR (h m : Int) (xs : List Int) : List ByteArray := (staS ++ stT h m) :: (thrL xs ++ [endS])
def linL (h m : Int) (xs : List Int) : List ByteArray := bif validB h m && runOk h m xs && decide (xs.length ≤ 696) then linR h m xs else []
end Go.Proofs.YtioemkdapoombaaGreatDoor
end
section
namespace Go.Proofs.YtioemkdapoombaaGreatDoor
open Go.ChangeShapes Go.WideShapes Go.ChangeAt Go.RowKit
set_option linter.unusedVariables false
set_option linter.unusedSimpArgs false
theorem infoTx : (Tryz.prog.info? 9).map (fun i => (i.zero, i.size, i.bytes)) = some (some (.string ⟨#[]⟩), 1, 16) := by kernel_rfl
theorem rowT_ones (s : ByteArray) : ∀ u ∈ rowT s, u.oneCell' = true := by
  intro u hu
  simp only [rowT, List.mem_singleton] at hu
  subst hu; rfl
theorem btx_bd (m : Int) (k : Nat) : 48 ≤ btxN m k ∧ btxN m k ≤ 49 := by
  unfold btxN
  have := Int.emod_nonneg (m / 2 ^ k) (show (2 : Int) ≠ 0 by decide)
  have := Int.emod_lt_of_pos (m / 2 ^ k) (show (0 : Int) < 2 by decide)
  omega
set_option maxHeartbeats 2000000 in
set_option maxRecDepth 100000 in
theorem c_impl_StateText (h m : Int) (w : World) (hv : validB h m = true) :
    Calls Tryz.prog 39 #[.agg #[.int .i64 h, .int .i64 m]] w fun e w' => e = .returned (.string (stT h m)) ∧ Below w.heap.size w w' := by
  obtain ⟨W0, hW0, k0, k1, B0⟩ := oneState w 25 h m
  have hbd := valid_bd hv
  have HST : Hid (stT h m = strOfNums (btxTo m h.toNat)) := rfl
  go_enter Tryz.func39, Tryz.ntmps39
  go_wp2_with fail
  rw [← hW0]
  clear hW0
  refine (c_impl_ValidState h m _).mono ?_; rintro e w1 ⟨rfl, hb1⟩; rw [hv]
  have k0 := keepc hb1 k0
  have k1 := keepc hb1 k1
  have B1 := B0.tr hb1
  have hz1 : w.heap.size < w1.heap.size := World.block_lt_of_cell? w1 _ k0
  clear hv
  go_wp2
  go_loopw [3, 11] (fun s i wr => ∃ k : Nat, k ≤ h.toNat ∧ i = .int .i64 k ∧ OwnB w1.heap.size wr.heap.size wr s (btxTo m k) ∧ wr.cell? ⟨w.heap.size, 0, none⟩ = some (.int .i64 h) ∧ wr.cell? ⟨w.heap.size, 1, none⟩ = some (.int .i64 m) ∧ Below w.heap.size w wr ∧ w1.heap.size ≤ wr.heap.size) (fun _ i _ => h.toNat - (intOf i).toNat)
  case atStart => exact ⟨0, by omega, rfl, (OwnRow.made rfl rfl (Nat.le_refl _)).tight, al_c _ k0, al_c _ k1, B1.al _, by rw [World.size_alloc]; omega⟩
  case round =>
    clear k0 k1
    obtain ⟨k, hk, rfl, ho, k0, k1, hb, hs⟩ := hrel
    by_cases hlt : k < h.toNat
    · have hlt2 : (k : Int) < h := by omega
      have HT := Lib.hid (btxTo_succ m k)
      have hll : (btxTo m k).length < 1000000000 := by rw [btxTo_len]; omega
      have hdb := div_bd m k hbd.2
      have HB2 : Hid (48 + bits .and .i64 (m / 2 ^ k) 1 = btxN m k) := by unfold Hid btxN; rw [and_one _ hdb.1 (by omega)]
      have hand : 0 ≤ bits .and .i64 (m / 2 ^ k) 1 ∧ bits .and .i64 (m / 2 ^ k) 1 ≤ 1 := by rw [and_one _ hdb.1 (by omega)]; omega
      have hnb := btx_bd m k
      obtain ⟨c, HC⟩ : ∃ c, Hid (btxN m k = c) := ⟨_, Lib.hid rfl⟩
      rw [HC.out] at HT HB2 hnb
      obtain ⟨x, HX⟩ : ∃ x, Hid (bits .and .i64 (m / 2 ^ k) 1 = x) := ⟨_, Lib.hid rfl⟩
      rw [HX.out] at HB2 hand
      have hx := HX.out
      have hlo := World.ownsRow.lt ho.1
      obtain rfl : 48 + x = c := HB2.out
      go_wp2_with (at_builtin; refine push_row_at (row := rowB) rfl _ _ _ _ rfl Tryz.underlying22 (.int .u8 0) 1 infoB rfl (by decide) (by decide) rowB_len w1.heap.size _ _ _ (48 + x) #[.int .u8 (48 + x)] _ rfl (rowB_one _) rfl rfl (by exact ho) hll (by omega) ?_; intro v' w5 hown5 hbel5 hs5 hg5 hat5)
      go_roundw
      case rel => exact ⟨k + 1, by omega, by go_num, by rw [HT.out]; exact hown5, grown_c hg5 k0 (fun e => by have := (hlo _ e).1; have := B1.size; omega), grown_c hg5 k1 (fun e => by have := (hlo _ e).1; omega), hb.grown hg5 hb.size (fun q hq => Nat.le_trans (by omega : w.heap.size ≤ w1.heap.size) (hlo q hq).1), by omega⟩
      case measure => simp [intOf]; omega
    · obtain rfl : k = h.toNat := by omega
      have hlt2 : ¬ ((h.toNat : Nat) : Int) < h := by omega
      have hcv := conv_own ho
      rw [← HST.out] at hcv
      go_wp2
      go_ret
      exact ⟨rfl, hb⟩
theorem btx_zero (m : Int) (k : Nat) (h : bitB m k = false) : strOfNums (btxTo m (k + 1)) = strOfNums (btxTo m k) ++ ⟨#[48]⟩ := by
  have e : btxN m k = 48 := by
    have := btx_bd m k
    unfold bitB at h
    have h2 := of_decide_eq_false h
    unfold btxN at *
    simp only [Int.toNat_natCast] at h2
    omega
  rw [btxTo_succ, strOfNums_append, e]; rfl
theorem btx_one (m : Int) (k : Nat) (h : bitB m k = true) : strOfNums (btxTo m (k + 1)) = strOfNums (btxTo m k) ++ ⟨#[49]⟩ := by
  have e : btxN m k = 49 := by
    unfold bitB at h
    have h2 := of_decide_eq_true h
    unfold btxN
    simp only [Int.toNat_natCast] at h2
    omega
  rw [btxTo_succ, strOfNums_append, e]; rfl
theorem stT_size (h m : Int) : (stT h m).size = h.toNat := by unfold stT; rw [strOfNums_size, btxTo_len]
set_option maxHeartbeats 2000000 in
set_option maxRecDepth 100000 in
theorem c_spec_l08Text (h m : Int) (w : World) (hv : validB h m = true) :
    Calls Tryz.prog 64 #[.agg #[.int .i64 h, .int .i64 m]] w fun e w' => e = .returned (.string (stT h m)) ∧ Below w.heap.size w w' := by
  obtain ⟨W0, hW0, k0, k1, B0⟩ := oneState w 25 h m
  have hbd := valid_bd hv
  have HST : Hid (stT h m = strOfNums (btxTo m h.toNat)) := rfl
  have HSZ := Lib.hid (fun k => (strOfNums_size (btxTo m k)).trans (btxTo_len m k))
  clear hv
  go_enter Tryz.func64, Tryz.ntmps64
  go_wp2
  rw [← hW0]
  clear hW0
  go_loopw [3, 4] (fun s i wr => ∃ k : Nat, k ≤ h.toNat ∧ i = .int .i64 k ∧ s = .string (strOfNums (btxTo m k)) ∧ wr.cell? ⟨w.heap.size, 0, none⟩ = some (.int .i64 h) ∧ wr.cell? ⟨w.heap.size, 1, none⟩ = some (.int .i64 m) ∧ Below w.heap.size w wr) (fun _ i _ => h.toNat - (intOf i).toNat)
  case atStart => exact ⟨0, by omega, rfl, rfl, k0, k1, B0⟩
  case round =>
    clear k0 k1
    obtain ⟨k, hk, rfl, rfl, k0, k1, hb⟩ := hrel
    by_cases hlt : k < h.toNat
    · have hlt2 : (k : Int) < h := by omega
      have hsz := HSZ.out k
      obtain ⟨S, HS⟩ : ∃ S, Hid (strOfNums (btxTo m k) = S) := ⟨_, Lib.hid rfl⟩
      have hn : ¬ (9223372036854775807 < k + 1) := by omega
      cases hbit : bitB m k
      · have HN := Lib.hid (btx_zero m k hbit)
        rw [HS.out] at HN hsz ⊢
        have hsa : (S ++ ⟨#[48]⟩).size = k + 1 := by rw [ByteArray.size_append, hsz]; rfl
        go_wp2_with (go_at_call 71; refine (c_spec_l08Bit _ _ _ hbd.2 (by omega)).mono ?_; rintro e w1 ⟨rfl, rfl⟩)
        go_roundw
        case rel => exact ⟨k + 1, by omega, by go_num, by rw [HN.out], k0, k1, hb⟩
        case measure => simp [intOf]; omega
      · have HN := Lib.hid (btx_one m k hbit)
        rw [HS.out] at HN hsz ⊢
        have hsa : (S ++ ⟨#[49]⟩).size = k + 1 := by rw [ByteArray.size_append, hsz]; rfl
        go_wp2_with (go_at_call 71; refine (c_spec_l08Bit _ _ _ hbd.2 (by omega)).mono ?_; rintro e w1 ⟨rfl, rfl⟩)
        go_roundw
        case rel => exact ⟨k + 1, by omega, by go_num, by rw [HN.out], k0, k1, hb⟩
        case measure => simp [intOf]; omega
    · obtain rfl : k = h.toNat := by omega
      have hlt2 : ¬ ((h.toNat : Nat) : Int) < h := by omega
      rw [← HST.out]
      go_wp2
      go_ret
      exact ⟨rfl, hb⟩
theorem c_textDt (xs : List Int) (D : ByteArray) (hD : hexT xs = D) (v : Value) (w : World) (h : RdI w v xs) (hx : ∀ x ∈ xs, 0 ≤ x ∧ x < 16) :
    Calls Tryz.prog 51 #[v] w fun e w' => e = .returned (.string D) ∧ Below w.heap.size w w' := by
  subst hD; exact c_spec_l02Text xs v w h hx
theorem line_hex {xs : List Int} (hx : ∀ x ∈ xs, 0 ≤ x ∧ x < 16) (k : Nat) : ∀ x ∈ (xs.drop (12 * k)).take 12, 0 ≤ x ∧ x < 16 := fun x h => hx x (List.mem_of_mem_drop (List.mem_of_mem_take h))
end Go.Proofs.YtioemkdapoombaaGreatDoor
end
