/- The law LinesX: what it rests on, part 29 of 46. -/
import Derived.Test.YtioemkdapoombaaGreatDoorShelf
import Derived.Lib.SmallJoins
import Derived.Lib.AppendIntMem
import Derived.Test.YtioemkdapoombaaGreatDoorQLinesX06
import Derived.Test.YtioemkdapoombaaGreatDoorQLinesX20
namespace Go.Proofs.YtioemkdapoombaaGreatDoor
open Go.ChangeShapes Go.WideShapes Go.ChangeAt Go.RowKit
set_option linter.unusedVariables false
set_option linter.unusedSimpArgs false
/-- the decimal text of a number -/
def decT (n : Int) : ByteArray := ⟨(Lib.itoa n).toArray⟩
/-- the decimal digits of a number, none for 0 -/
def dgL (u : Nat) : List Int := if u = 0 then [] else dgL (u / 10) ++ [48 + ((u % 10 : Nat) : Int)]
termination_by u
decreasing_by omega
theorem dgL_zero : dgL 0 = [] := by rw [dgL]; rfl
theorem dgL_step {u : Nat} (h : 0 < u) : dgL u = dgL (u / 10) ++ [48 + ((u % 10 : Nat) : Int)] := by
  rw [dgL, if_neg (by omega)]
theorem dgL_len : ∀ (k u : Nat), u < 10 ^ k → (dgL u).length ≤ k
  | 0, u, h => by
    have : u = 0 := by simpa using h
    rw [this, dgL_zero]; simp
  | k + 1, u, h => by
    by_cases h0 : 0 < u
    · rw [dgL_step h0, List.length_append]
      have := dgL_len k (u / 10) (by rw [Nat.pow_succ] at h; omega)
      show _ + 1 ≤ _
      omega
    · have : u = 0 := by omega
      rw [this, dgL_zero]; simp
theorem dgL_dec (u : Nat) (h : 0 < u) : (dgL u).map (fun n => UInt8.ofNat n.toNat) = Lib.decDigits u := by
  induction u using Nat.strongRecOn with
  | _ u ih =>
    rw [dgL_step h, List.map_append, Lib.decDigits]
    by_cases h10 : u < 10
    · rw [dif_pos h10]
      have e1 : u / 10 = 0 := by omega
      have e2 : u % 10 = u := by omega
      rw [e1, e2, dgL_zero]
      show [UInt8.ofNat (48 + (u : Int)).toNat] = _
      have e3 : (48 + (u : Int)).toNat = 48 + u := by omega
      rw [e3]
    · rw [dif_neg h10, ih (u / 10) (by omega) (by omega)]
      have e3 : (48 + ((u % 10 : Nat) : Int)).toNat = 48 + u % 10 := by omega
      simp only [List.map_cons, List.map_nil, e3]
theorem str_dgL (u : Nat) (h : 0 < u) : strOfNums (dgL u) = ⟨(Lib.decDigits u).toArray⟩ := by
  unfold strOfNums
  rw [dgL_dec u h]
theorem decT_zero : decT 0 = ⟨#[48]⟩ := by
  unfold decT Lib.itoa
  rw [if_neg (by decide)]
  show (⟨(Lib.decDigits 0).toArray⟩ : ByteArray) = _
  rw [Lib.decDigits, dif_pos (by decide)]
  rfl
theorem decT_pos {n : Int} (h : 0 < n) : decT n = strOfNums (dgL n.natAbs) := by
  unfold decT Lib.itoa
  rw [if_neg (by omega), str_dgL _ (by omega), show n.toNat = n.natAbs by omega]
theorem decT_neg {n : Int} (h : n < 0) : decT n = ⟨#[45]⟩ ++ strOfNums (dgL n.natAbs) := by
  unfold decT Lib.itoa
  rw [if_pos h, str_dgL _ (by omega)]
  apply ByteArray.ext
  rw [ByteArray.data_append]
  simp
theorem decT_size {n : Int} (h : -9223372036854775808 ≤ n ∧ n ≤ 9223372036854775807) : (decT n).size ≤ 20 := by
  by_cases h0 : n = 0
  · subst h0; rw [decT_zero]; decide
  · have hl := dgL_len 19 n.natAbs (by have : (10 : Nat) ^ 19 = 10000000000000000000 := by decide
                                       omega)
    by_cases h1 : 0 < n
    · rw [decT_pos h1, strOfNums_size]; omega
    · rw [decT_neg (by omega), ByteArray.size_append, strOfNums_size]
      show 1 + _ ≤ _
      omega
/-- strconv's table of powers lies as it was laid -/
abbrev Tab (w : World) : Prop := Lib.TabIs Tryz.prog w "internal/strconv.uint64pow10" .u64 Lib.pow10Tab
theorem gTab : Tryz.prog.globalNamed "internal/strconv.uint64pow10" = some 0 := by kernel_rfl
theorem tab_below {w w' : World} (h : Tab w) (hb : Below w.heap.size w w') : Tab w' := Go.Joins.tab_stays gTab h hb (Nat.le_refl _)
theorem c_impl_Decimal (n : Int) (w : World) (hn : -9223372036854775808 ≤ n ∧ n ≤ 9223372036854775807) (ht : Tab w) :
    Calls Tryz.prog 48 #[.int .i64 n] w fun e w' => e = .returned (.string (decT n)) ∧ Below w.heap.size w w' := by
  have HT := Lib.hid ht
  have HD : Hid (decT n = ⟨(Lib.itoa n).toArray⟩) := rfl
  obtain ⟨h0, h1⟩ := hn
  clear ht
  go_enter Tryz.func48, Tryz.ntmps48
  go_wp2_with fail
  refine (Tryz.strconv_FormatInt_10 n h0 h1 _ HT.out).mono ?_; rintro e w1 ⟨rfl, k, os, rfl⟩
  have hb := Lib.below_grow w.heap.size w (Nat.le_refl _) k os
  rw [← HD.out]
  go_wp2
  go_ret
  exact ⟨rfl, hb⟩
theorem oneByte (w : World) (b : Int) : OwnB w.heap.size (w.heap.size + 1) (w.alloc (.cells #[.int .u8 b] 5)) (.slice (some ⟨w.heap.size, 0, none⟩) 1 1) [b] := by
  refine ⟨?_, fun k hk => ?_⟩
  · exact World.ownsRow_lit w #[.int .u8 b] 1 (Nat.le_refl _) (by decide) rfl
  · simp only [Value.ownBlock, Option.some.injEq] at hk
    omega
theorem dec_step {q : Int} (h : q ≠ 0) : (-10 < q.tmod 10 ∧ q.tmod 10 < 10) ∧ ((q.tdiv 10).natAbs = q.natAbs / 10) ∧ (q.tmod 10 < 0 → -(q.tmod 10) = ((q.natAbs % 10 : Nat) : Int)) ∧ (¬ q.tmod 10 < 0 → q.tmod 10 = ((q.natAbs % 10 : Nat) : Int)) ∧ -9223372036854775808 / 10 ≤ 0 := by
  rcases Int.lt_or_le q 0 with h1 | h1
  · obtain ⟨m, rfl⟩ : ∃ m : Nat, q = -(m : Int) := ⟨q.natAbs, by omega⟩
    have e1 : (-(m : Int)).tmod 10 = -((m : Int).tmod 10) := Int.neg_tmod ..
    have e2 : (-(m : Int)).tdiv 10 = -((m : Int).tdiv 10) := Int.neg_tdiv ..
    have e3 : (m : Int).tmod 10 = (m : Int) % 10 := Int.tmod_eq_emod_of_nonneg (by omega)
    have e4 : (m : Int).tdiv 10 = (m : Int) / 10 := Int.tdiv_eq_ediv_of_nonneg (by omega)
    rw [e1, e2, e3, e4]
    refine ⟨by omega, by omega, fun _ => by omega, fun _ => by omega, by decide⟩
  · have e3 : q.tmod 10 = q % 10 := Int.tmod_eq_emod_of_nonneg h1
    have e4 : q.tdiv 10 = q / 10 := Int.tdiv_eq_ediv_of_nonneg h1
    rw [e3, e4]
    refine ⟨by omega, by omega, fun _ => by omega, fun _ => by omega, by decide⟩
set_option maxHeartbeats 2000000 in
set_option maxRecDepth 100000 in
theorem c_spec_l01Dec (n : Int) (w : World) (hn : -9223372036854775808 ≤ n ∧ n ≤ 9223372036854775807) :
    Calls Tryz.prog 52 #[.int .i64 n] w fun e w' => e = .returned (.string (decT n)) ∧ Below w.heap.size w w' := by
  have hdl := dgL_len 19 n.natAbs (by have : (10 : Nat) ^ 19 = 10000000000000000000 := by decide
                                      omega)
  go_enter Tryz.func52, Tryz.ntmps52
  go_wp2
  go_loopw [3, 4] (fun o i wr => ∃ (q : Int) (L : List Int), i = .int .i64 q ∧ q.natAbs ≤ n.natAbs ∧ L.length ≤ 19 ∧ OwnB w.heap.size wr.heap.size wr o L ∧ Hid (dgL q.natAbs ++ L = dgL n.natAbs) ∧ (-9223372036854775808 ≤ q ∧ q ≤ 9223372036854775807) ∧ Below w.heap.size w wr) (fun _ i _ => (intOf i).natAbs)
  case atStart => exact ⟨n, [], rfl, Nat.le_refl _, by simp, (OwnRow.made rfl rfl (Nat.le_refl _)).tight, by unfold Hid; rw [List.append_nil], hn, by (repeat (first | (with_reducible assumption) | (with_reducible exact Below.refl _ _) | (with_reducible refine Below.setCell ?_ (by first | (simp; done) | (simp; omega)) _) | (with_reducible refine Below.al ?_ _) | (with_reducible refine Below.dr ?_) | (with_reducible refine Below.drN ?_ _) | (with_reducible refine Below.tr ?_ (by with_reducible assumption))))⟩
  case round =>
    obtain ⟨q, L, rfl, hqn, hLl, ho, HE, hqb, hb⟩ := hrel
    by_cases h0 : q = 0
    · subst h0
      have hE := HE.out
      rw [show (0 : Int).natAbs = 0 from rfl, dgL_zero, List.nil_append] at hE
      by_cases hn0 : n = 0
      · have HD : Hid (decT n = ⟨#[48]⟩) := by unfold Hid; rw [hn0]; exact decT_zero
        have hL : L = [] := by rw [hE, hn0]; exact dgL_zero
        subst hL
        clear hE hn0 HE
        obtain ⟨a1, c1, rfl, -, -⟩ := OwnRow.rd rowB_len ho
        go_wp2
        go_ret
        exact ⟨by rw [HD.out]; rfl, hb⟩
      · have hpos : 0 < L.length := by
          have : dgL n.natAbs ≠ [] := by rw [dgL_step (by omega)]; simp
          rw [hE]
          exact List.length_pos_iff.2 this
        have hz : ((L.length : Int) == 0) = false := by
          have : (L.length : Int) ≠ 0 := by omega
          simpa using this
        have hcv := conv_own ho
        obtain ⟨a1, c1, rfl, -, -⟩ := OwnRow.rd rowB_len ho
        have hsz : (strOfNums L).size ≤ 19 := by rw [strOfNums_size]; exact hLl
        by_cases hneg : n < 0
        · have HD : Hid (decT n = ⟨#[45]⟩ ++ strOfNums L) := by unfold Hid; rw [decT_neg hneg, hE]
          have hs2 : ((⟨#[45]⟩ : ByteArray) ++ strOfNums L).size ≤ 20 := by rw [ByteArray.size_append]; show 1 + _ ≤ _; omega
          clear hE HE
          go_wp2
          go_ret
          exact ⟨by rw [HD.out]; rfl, hb⟩
        · have HD : Hid (decT n = strOfNums L) := by unfold Hid; rw [decT_pos (by omega), hE]
          clear hE HE
          go_wp2
          go_ret
          exact ⟨by rw [HD.out]; rfl, hb⟩
    · obtain ⟨hm, hdv, hm1, hm2, -⟩ := dec_step h0
      have hst := dgL_step (u := q.natAbs) (by omega)
      have hlen : L.length + 1 ≤ 19 := by
        have h1 := congrArg List.length HE.out
        rw [hst, List.length_append, List.length_append] at h1
        have h2 : ([48 + ((q.natAbs % 10 : Nat) : Int)]).length = 1 := rfl
        omega
      obtain ⟨c, Hc⟩ : ∃ c, Hid (((q.natAbs % 10 : Nat) : Int) = c) := ⟨_, Lib.hid rfl⟩
      rw [Hc.out] at hm1 hm2 hst
      have hcb : 0 ≤ c ∧ c < 10 := by have := Hc.out; omega
      have HE2 : Hid (dgL (q.tdiv 10).natAbs ++ ([48 + c] ++ L) = dgL n.natAbs) := by
        unfold Hid
        rw [hdv, ← HE.out, hst, List.append_assoc]
      have hq2 : (q.tdiv 10).natAbs ≤ n.natAbs := by rw [hdv]; omega
      have hqt : -9223372036854775808 ≤ q.tdiv 10 ∧ q.tdiv 10 ≤ 9223372036854775807 := by omega
      have hms : (q.tdiv 10).natAbs < q.natAbs := by rw [hdv]; omega
      have hrd := OwnRow.rd rowB_len (OwnRow.al ho (Obj.cells #[Value.int IntKind.u8 (48 + c)] 5))
      have one := (oneByte wr (48 + c))
      have hbs := hb.size
      have one := OwnRow.wide one hbs (Nat.le_refl _)
      have B2 := hb.al (Obj.cells #[Value.int IntKind.u8 (48 + c)] 5)
      have hl1 := World.ownsRow.lt one.1
      have hlen2 : ([48 + c] : List Int).length + L.length < 1000000000 := by show 1 + _ < _; omega
      have hz2 : w.heap.size ≤ (wr.alloc (Obj.cells #[Value.int IntKind.u8 (48 + c)] 5)).heap.size := by rw [World.size_alloc]; omega
      have hne : (q != 0) = true := by simpa using h0
      clear hst hdv
      by_cases hd : q.tmod 10 < 0
      · have hc := hm1 hd
        go_wp2_with (at_builtin; refine push_rows (row := rowB) rfl _ _ _ _ rfl Tryz.underlying22 (.int .u8 0) 1 infoB rfl (by decide) rowB_len rowB_one w.heap.size _ _ _ _ _ _ rfl rfl (by exact one) ⟨_, _, _, rfl⟩ (by exact hrd) hlen2 hz2 ?_; intro v4 w4 ho4 hg4 hat4 hs4)
        go_roundw
        case rel => exact ⟨q.tdiv 10, [48 + c] ++ L, by go_num, hq2, by rw [List.length_append]; show 1 + _ ≤ _; omega, ho4, HE2, hqt, B2.grown hg4 B2.size (fun q hq => (hl1 q hq).1)⟩
        case measure => exact hms
      · have hc := hm2 hd
        go_wp2_with (at_builtin; refine push_rows (row := rowB) rfl _ _ _ _ rfl Tryz.underlying22 (.int .u8 0) 1 infoB rfl (by decide) rowB_len rowB_one w.heap.size _ _ _ _ _ _ rfl rfl (by exact one) ⟨_, _, _, rfl⟩ (by exact hrd) hlen2 hz2 ?_; intro v4 w4 ho4 hg4 hat4 hs4)
        go_roundw
        case rel => exact ⟨q.tdiv 10, [48 + c] ++ L, by go_num, hq2, by rw [List.length_append]; show 1 + _ ≤ _; omega, ho4, HE2, hqt, B2.grown hg4 B2.size (fun q hq => (hl1 q hq).1)⟩
        case measure => exact hms
end Go.Proofs.YtioemkdapoombaaGreatDoor
