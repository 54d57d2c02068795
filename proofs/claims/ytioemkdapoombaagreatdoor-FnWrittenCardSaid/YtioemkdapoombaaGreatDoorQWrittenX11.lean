/- The law WrittenX: what it rests on, part 11 of 46. -/
import Derived.Deep.RegionHeld3
import Derived.Test.YtioemkdapoombaaGreatDoorQWrittenX06
import Derived.Test.YtioemkdapoombaaGreatDoorQWrittenX07
import Derived.Test.YtioemkdapoombaaGreatDoorQWrittenX10
namespace Go.Proofs.YtioemkdapoombaaGreatDoor
open Go.ChangeShapes Go.WideShapes Go.ChangeAt Go.RowKit
set_option linter.unusedVariables false
set_option linter.unusedSimpArgs false
theorem tmod_bd (a n : Int) (hn : 0 < n) : -n < a.tmod n ∧ a.tmod n < n := by
  have h1 := Int.tmod_lt_of_pos a hn
  have h2 := Int.tmod_lt_of_pos (-a) hn
  rw [Int.neg_tmod] at h2
  omega
theorem modI (a n : Int) : (a.tmod n + n) % n = a % n := by
  rw [Int.add_emod_right, Int.tmod_def, Int.sub_mul_emod_self_left]
theorem c_impl_modulo (a n : Int) (w : World) (hn : 0 < n ∧ n ≤ 1000) (ha : -10000000 ≤ a ∧ a ≤ 10000000) :
    Calls Tryz.prog 157 #[.int .i64 a, .int .i64 n] w fun e w' => e = .returned (.int .i64 (a % n)) ∧ w = w' := by
  have HM := Lib.hid (modI a n)
  have h1 := tmod_bd a n hn.1
  have h2 := tmod_bd (a.tmod n + n) n hn.1
  go_enter Tryz.func157, Tryz.ntmps157
  go_wp2
  go_ret
  exact ⟨by rw [← HM.out]; rfl, rfl⟩
theorem c_spec_l02Mod (a n : Int) (w : World) (hn : 0 < n ∧ n ≤ 1000) (ha : -10000000 ≤ a ∧ a ≤ 10000000) :
    Calls Tryz.prog 131 #[.int .i64 a, .int .i64 n] w fun e w' => e = .returned (.int .i64 (a % n)) ∧ w = w' := by
  have HM := Lib.hid (modI a n)
  have h1 := tmod_bd a n hn.1
  have h2 := tmod_bd (a.tmod n + n) n hn.1
  go_enter Tryz.func131, Tryz.ntmps131
  go_wp2
  go_ret
  exact ⟨by rw [← HM.out]; rfl, rfl⟩
set_option maxHeartbeats 1000000 in
theorem c_impl_landsFrom (p : List Int) (beat : Int) (v : Value) (w : World) (h : RdI w v p) (hv : validP p = true) (hb : -100000 ≤ beat ∧ beat ≤ 100000) :
    Calls Tryz.prog 132 #[v, .int .i64 beat] w fun e w' => e = .returned (.int .i64 (beat - p.getD (liN p (beat % (p.length : Int))) 0)) ∧ Below w.heap.size w w' := by
  have hv' := validP_iff.1 hv
  have hln := hv'.1.2
  have hok : okThrows p = true := okThrows_iff.2 hv'.1
  have HR := Lib.hid h
  obtain ⟨a1, cap1, rfl, hl1, hc1⟩ := h
  have HU := Lib.hid (fun k hk => li_uniq hv (k := k) (r := beat % (p.length : Int)) hk)
  have HO : Hid (∃ i, i < p.length ∧ landAt p i = beat % (p.length : Int)) := land_onto hv ⟨Int.emod_nonneg _ (by omega), Int.emod_lt_of_pos _ (by omega)⟩
  have HA := Lib.hid (fun k hk => landTo_get p p.length k hk)
  have HB := Lib.hid (fun k hk => hv'.1.1 _ (at_mem (p := p) (i := k) hk))
  go_enter Tryz.func132, Tryz.ntmps132
  go_wp2_with fail
  refine (c_impl_landings p _ _ HR.out hok).mono ?_; rintro e w2 ⟨v2, rfl, ho2, hb2⟩
  obtain ⟨a2, cap2, rfl, hl2, hc2⟩ := ho2.rd
  have HC1 : Hid (∀ k, k < p.length → ∃ b off, a1 = some ⟨b, off, none⟩ ∧ w2.cell? ⟨b, off + k, none⟩ = some (.int .i64 (p.getD k 0))) := fun k hk => by
    obtain ⟨b, off, ha, hc⟩ := hc1 k hk
    exact ⟨b, off, ha, keepc hb2 hc⟩
  have hll : (landL p).length = p.length := by unfold landL; simp
  have HLL := Lib.hid hll
  clear hc1 ho2 hv hv' hok
  go_wp2
  go_loopw [10] (fun i wr => ∃ k : Nat, k ≤ p.length ∧ i = .int .i64 k ∧ (∀ j, j < k → landAt p j ≠ beat % (p.length : Int)) ∧ wr = w2) (fun i _ => p.length - (intOf i).toNat)
  case atStart => exact ⟨0, by omega, rfl, fun j hj => by omega, by trivial⟩
  case round =>
    obtain ⟨k, hk, rfl, hno, rfl⟩ := hrel
    by_cases hlt : k < p.length
    · obtain ⟨b1, o1, rfl, hx⟩ := HC1.out k hlt
      obtain ⟨b2, o2, rfl, hy⟩ := hc2 k (by omega)
      have hL : (landL p).getD k 0 = landAt p k := HA.out k hlt
      rw [hL] at hy
      have hbd := HB.out k hlt
      have HN := Lib.hid hno
      obtain ⟨x, Hx⟩ : ∃ x, Hid (p.getD k 0 = x) := ⟨_, rfl⟩
      rw [Hx.out] at hx hbd
      by_cases he : landAt p k = beat % (p.length : Int)
      · have HE : Hid (liN p (beat % (p.length : Int)) = k) := HU.out k hlt he
        have te : (landAt p k == beat % (p.length : Int)) = true := by simp [he]
        clear hc2 hno hL
        go_wp2_with (first | (go_at_call 111; refine (c_impl_period _ _ _ _ (by omega)).mono ?_; rintro e w1 ⟨rfl, rfl⟩) | (go_at_call 157; refine (c_impl_modulo _ _ _ (by omega) (by omega)).mono ?_; rintro e w1 ⟨rfl, rfl⟩))
        go_ret
        exact ⟨by rw [HE.out, Hx.out]; rfl, hb2⟩
      · have te : (landAt p k == beat % (p.length : Int)) = false := by simp [he]
        clear hc2 hL
        go_wp2_with (first | (go_at_call 111; refine (c_impl_period _ _ _ _ (by omega)).mono ?_; rintro e w1 ⟨rfl, rfl⟩) | (go_at_call 157; refine (c_impl_modulo _ _ _ (by omega) (by omega)).mono ?_; rintro e w1 ⟨rfl, rfl⟩))
        go_roundw
        case rel => exact ⟨k + 1, by omega, by go_num, fun j hj => by
          by_cases e : j = k
          · subst e; exact he
          · exact HN.out j (by omega), by trivial⟩
        case measure => simp [intOf]; omega
    · obtain ⟨i, hi, hie⟩ := HO.out
      exact absurd hie (hno i (by omega))
set_option maxHeartbeats 1000000 in
theorem c_spec_l02From (p : List Int) (beat : Int) (v : Value) (w : World) (h : RdI w v p) (hv : validP p = true) (hb : -100000 ≤ beat ∧ beat ≤ 100000) :
    Calls Tryz.prog 144 #[v, .int .i64 beat] w fun e w' => e = .returned (.int .i64 (beat - p.getD (liN p (beat % (p.length : Int))) 0)) ∧ w.heap.size = w'.heap.size ∧ Below w.heap.size w w' := by
  have hv' := validP_iff.1 hv
  have hln := hv'.1.2
  obtain ⟨a1, cap1, rfl, hl1, hc1⟩ := h
  have HU := Lib.hid (fun k hk => li_uniq hv (k := k) (r := beat % (p.length : Int)) hk)
  have HO : Hid (∃ i, i < p.length ∧ landAt p i = beat % (p.length : Int)) := land_onto hv ⟨Int.emod_nonneg _ (by omega), Int.emod_lt_of_pos _ (by omega)⟩
  have HB := Lib.hid (fun k hk => hv'.1.1 _ (at_mem (p := p) (i := k) hk))
  have HC1 := Lib.hid hc1
  clear hc1 hv hv'
  go_enter Tryz.func144, Tryz.ntmps144
  go_wp2
  go_loopw [6] (fun i wr => ∃ k : Nat, k ≤ p.length ∧ i = .int .i64 k ∧ (∀ j, j < k → landAt p j ≠ beat % (p.length : Int)) ∧ w.heap.size = wr.heap.size ∧ Below w.heap.size w wr) (fun i _ => p.length - (intOf i).toNat)
  case atStart => exact ⟨0, by omega, rfl, fun j hj => by omega, rfl, by (repeat (first | (with_reducible assumption) | (with_reducible exact Below.refl _ _) | (with_reducible refine Below.setCell ?_ (by first | (simp; done) | (simp; omega)) _) | (with_reducible refine Below.al ?_ _) | (with_reducible refine Below.dr ?_) | (with_reducible refine Below.drN ?_ _) | (with_reducible refine Below.tr ?_ (by with_reducible assumption))))⟩
  case round =>
    obtain ⟨k, hk, rfl, hno, hsz, hbr⟩ := hrel
    by_cases hlt : k < p.length
    · obtain ⟨b1, o1, rfl, hx⟩ := HC1.out k hlt
      have hx' := keepc hbr hx
      have hbd := HB.out k hlt
      have HN := Lib.hid hno
      have hin0 : (0 : Int) ≤ (k : Int) := Int.natCast_nonneg _
      have hin1 : (k : Int) < (p.length : Int) := by omega
      obtain ⟨x, Hx⟩ : ∃ x, Hid (p.getD k 0 = x) := ⟨_, rfl⟩
      have Hl : Hid (landAt p k = ((k : Int) + x) % (p.length : Int)) := by unfold Hid landAt; rw [Hx.out]
      rw [Hx.out] at hx' hbd
      have hpos : (0 : Int) < (p.length : Int) := by omega
      have hpn : ¬ p = [] := fun e => by rw [e] at hlt; simp at hlt
      have hmo : 0 ≤ (k : Int) + x := by omega
      have HW : Hid ((IntKind.i64.wrap ((k : Int) + x)).tmod (p.length : Int) = landAt p k) := by
        unfold Hid
        rw [wraps_i64 _ hmo (by omega), Int.tmod_eq_emod_of_nonneg hmo, Hl.out]
      clear hno hx
      by_cases he : landAt p k = beat % (p.length : Int)
      · have HE : Hid (liN p (beat % (p.length : Int)) = k) := HU.out k hlt he
        have te : ((IntKind.i64.wrap ((k : Int) + x)).tmod (p.length : Int) == beat % (p.length : Int)) = true := by rw [HW.out]; simp [he]
        go_wp2_with fail
        go_region_held3 (fun w' => w'.cell? ⟨b1, o1 + k, none⟩ = some (.int .i64 x))
          (go_keep)
          (first | ((go_at_call 131; refine (c_spec_l02Mod beat (p.length : Int) _ (by omega) (by omega)).mono ?_; rintro e w3 ⟨rfl, rfl⟩)))
        go_wp2
        go_ret
        exact ⟨by rw [HE.out, Hx.out]; rfl, hsz, by (repeat (first | (with_reducible assumption) | (with_reducible exact Below.refl _ _) | (with_reducible refine Below.setCell ?_ (by first | (simp; done) | (simp; omega)) _) | (with_reducible refine Below.al ?_ _) | (with_reducible refine Below.dr ?_) | (with_reducible refine Below.drN ?_ _) | (with_reducible refine Below.tr ?_ (by with_reducible assumption))))⟩
      · have te : ((IntKind.i64.wrap ((k : Int) + x)).tmod (p.length : Int) == beat % (p.length : Int)) = false := by rw [HW.out]; simp [he]
        go_wp2_with fail
        go_region_held3 (fun w' => w'.cell? ⟨b1, o1 + k, none⟩ = some (.int .i64 x))
          (go_keep)
          (first | ((go_at_call 131; refine (c_spec_l02Mod beat (p.length : Int) _ (by omega) (by omega)).mono ?_; rintro e w3 ⟨rfl, rfl⟩)))
        go_wp2
        go_roundw
        case rel => exact ⟨k + 1, by omega, by go_num, fun j hj => by
          by_cases e : j = k
          · subst e; exact he
          · exact HN.out j (by omega), hsz, by (repeat (first | (with_reducible assumption) | (with_reducible exact Below.refl _ _) | (with_reducible refine Below.setCell ?_ (by first | (simp; done) | (simp; omega)) _) | (with_reducible refine Below.al ?_ _) | (with_reducible refine Below.dr ?_) | (with_reducible refine Below.drN ?_ _) | (with_reducible refine Below.tr ?_ (by with_reducible assumption))))⟩
        case measure => simp [intOf]; omega
    · obtain ⟨i, hi, hie⟩ := HO.out
      exact absurd hie (hno i (by omega))
end Go.Proofs.YtioemkdapoombaaGreatDoor
