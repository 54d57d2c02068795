/- The law LinesX: what it rests on, part 10 of 46. -/
import Derived.Deep.RegionHeld3
import Derived.Test.YtioemkdapoombaaGreatDoorQLinesX05
import Derived.Test.YtioemkdapoombaaGreatDoorQLinesX06
import Derived.Test.YtioemkdapoombaaGreatDoorQLinesX09
section
namespace Go.Proofs.YtioemkdapoombaaGreatDoor
open Go.ChangeShapes Go.WideShapes Go.ChangeAt Go.RowKit
set_option linter.unusedVariables false
set_option linter.unusedSimpArgs false
theorem tmod_bd (a n : Int) (hn : 0 < n) : -n < a.tmod n ∧ a.tmod n < n := by
  have h1 := Int.tmod_lt_of_pos a hn
  have h2 := Int.tmod_lt_of_pos (-a) hn
  rw [Int.neg_tmod] at h2
  omega
theorem modI (a n : Int) : (a.tmod n + n) % n = a % n := by
  rw [Int.add_emod_right, Int.tmod_def, Int.sub_mul_emod_self_left]
theorem c_spec_l02Mod (a n : Int) (w : World) (hn : 0 < n ∧ n ≤ 1000) (ha : -10000000 ≤ a ∧ a ≤ 10000000) :
    Calls Tryz.prog 131 #[.int .i64 a, .int .i64 n] w fun e w' => e = .returned (.int .i64 (a % n)) ∧ w = w' := by
  have HM := Lib.hid (modI a n)
  have h1 := tmod_bd a n hn.1
  have h2 := tmod_bd (a.tmod n + n) n hn.1
  go_enter Tryz.func131, Tryz.ntmps131
  go_wp2
  go_ret
  exact ⟨by rw [← HM.out]; rfl, rfl⟩
set_option maxHeartbeats 1000000 in
theorem c_spec_l02From (p : List Int) (beat : Int) (v : Value) (w : World) (h : RdI w v p) (hv : validP p = true) (hb : -100000 ≤ beat ∧ beat ≤ 100000) :
    Calls Tryz.prog 144 #[v, .int .i64 beat] w fun e w' => e = .returned (.int .i64 (beat - p.getD (liN p (beat % (p.length : Int))) 0)) ∧ w.heap.size = w'.heap.size ∧ Below w.heap.size w w' := by
  have hv' := validP_iff.1 hv
  have hln := hv'.1.2
  obtain ⟨a1, cap1, rfl, hl1, hc1⟩ := h
  have HU := Lib.hid (fun k hk => li_uniq hv (k := k) (r := beat % (p.length : Int)) hk)
  have HO : Hid (∃ i, i < p.length ∧ landAt p i = beat % (p.length : Int)) := land_onto hv ⟨Int.emod_nonneg _ (by omega), Int.emod_lt_of_pos _ (by omega)⟩
  have HB := Lib.hid (fun k hk => hv'.1.1 _ (at_mem (p := p) (i := k) hk))
  have HC1 := Lib.hid hc1
  clear hc1 hv hv'
  go_enter Tryz.func144, Tryz.ntmps144
  go_wp2
  go_loopw [6] (fun i wr => ∃ k : Nat, k ≤ p.length ∧ i = .int .i64 k ∧ (∀ j, j < k → landAt p j ≠ beat % (p.length : Int)) ∧ w.heap.size = wr.heap.size ∧ Below w.heap.size w wr) (fun i _ => p.length - (intOf i).toNat)
  case atStart => exact ⟨0, by omega, rfl, fun j hj => by omega, rfl, by (repeat (first | (with_reducible assumption) | (with_reducible exact Below.refl _ _) | (with_reducible refine Below.setCell ?_ (by first | (simp; done) | (simp; omega)) _) | (with_reducible refine Below.al ?_ _) | (with_reducible refine Below.dr ?_) | (with_reducible refine Below.drN ?_ _) | (with_reducible refine Below.tr ?_ (by with_reducible assumption))))⟩
  case round =>
    obtain ⟨k, hk, rfl, hno, hsz, hbr⟩ := hrel
    by_cases hlt : k < p.length
    · obtain ⟨b1, o1, rfl, hx⟩ := HC1.out k hlt
      have hx' := keepc hbr hx
      have hbd := HB.out k hlt
      have HN := Lib.hid hno
      have hin0 : (0 : Int) ≤ (k : Int) := Int.natCast_nonneg _
      have hin1 : (k : Int) < (p.length : Int) := by omega
      obtain ⟨x, Hx⟩ : ∃ x, Hid (p.getD k 0 = x) := ⟨_, rfl⟩
      have Hl : Hid (landAt p k = ((k : Int) + x) % (p.length : Int)) := by unfold Hid landAt; rw [Hx.out]
      rw [Hx.out] at hx' hbd
      have hpos : (0 : Int) < (p.length : Int) := by omega
      have hpn : ¬ p = [] := fun e => by rw [e] at hlt; simp at hlt
      have hmo : 0 ≤ (k : Int) + x := by omega
      have HW : Hid ((IntKind.i64.wrap ((k : Int) + x)).tmod (p.length : Int) = landAt p k) := by
        unfold Hid
        rw [wraps_i64 _ hmo (by omega), Int.tmod_eq_emod_of_nonneg hmo, Hl.out]
      clear hno hx
      by_cases he : landAt p k = beat % (p.length : Int)
      · have HE : Hid (liN p (beat % (p.length : Int)) = k) := HU.out k hlt he
        have te : ((IntKind.i64.wrap ((k : Int) + x)).tmod (p.length : Int) == beat % (p.length : Int)) = true := by rw [HW.out]; simp [he]
        go_wp2_with fail
        go_region_held3 (fun w' => w'.cell? ⟨b1, o1 + k, none⟩ = some (.int .i64 x))
          (go_keep)
          (first | ((go_at_call 131; refine (c_spec_l02Mod beat (p.length : Int) _ (by omega) (by omega)).mono ?_; rintro e w3 ⟨rfl, rfl⟩)))
        go_wp2
        go_ret
        exact ⟨by rw [HE.out, Hx.out]; rfl, hsz, by (repeat (first | (with_reducible assumption) | (with_reducible exact Below.refl _ _) | (with_reducible refine Below.setCell ?_ (by first | (simp; done) | (simp; omega)) _) | (with_reducible refine Below.al ?_ _) | (with_reducible refine Below.dr ?_) | (with_reducible refine Below.drN ?_ _) | (with_reducible refine Below.tr ?_ (by with_reducible assumption))))⟩
      · have te : ((IntKind.i64.wrap ((k : Int) + x)).tmod (p.length : Int) == beat % (p.length : Int)) = false := by rw [HW.out]; simp [he]
        go_wp2_with fail
        go_region_held3 (fun w' => w'.cell? ⟨b1, o1 + k, none⟩ = some (.int .i64 x))
          (go_keep)
          (first | ((go_at_call 131; refine (c_spec_l02Mod beat (p.length : Int) _ (by omega) (by omega)).mono ?_; rintro e w3 ⟨rfl, rfl⟩)))
        go_wp2
        go_roundw
        case rel => exact ⟨k + 1, by omega, by go_num, fun j hj => by
          by_cases e : j = k
          · subst e; exact he
          · exact HN.out j (by omega), hsz, by (repeat (first | (with_reducible assumption) | (with_reducible exact Below.refl _ _) | (with_reducible refine Below.setCell ?_ (by first | (simp; done) | (simp; omega)) _) | (with_reducible refine Below.al ?_ _) | (with_reducible refine Below.dr ?_) | (with_reducible refine Below.drN ?_ _) | (with_reducible refine Below.tr ?_ (by with_reducible assumption))))⟩
        case measure => simp [intOf]; omega
    · obtain ⟨i, hi, hie⟩ := HO.out
      exact absurd hie (hno i (by omega))
end Go.Proofs.YtioemkdapoombaaGreatDoor
end
section
namespace Go.Proofs.YtioemkdapoombaaGreatDoor
open Go.ChangeShapes Go.WideShapes Go.ChangeAt Go.RowKit
set_option linter.unusedVariables false
set_option linter.unusedSimpArgs false
theorem or_st {p : List Int} {b : Int} {k : Nat} (hs : stB p b k = true) (hk : k < 11) : bits .or .i64 (stTo p b k) (2 ^ k) = stTo p b (k + 1) := by
  have hb := stTo_bd p b k
  have h2 : 2 ^ k ≤ 2 ^ 10 := Nat.pow_le_pow_right (by omega) (by omega)
  have h3 : ((2 : Int) ^ k) = ((2 ^ k : Nat) : Int) := by simp
  rw [or_i64 _ _ (by omega) (by rw [h3]; omega), stTo_succ, hs, cond_true]
  congr 1
theorem stB_false {p : List Int} {b : Int} {k : Nat} (hs : stB p b k = false) : stTo p b (k + 1) = stTo p b k := by rw [stTo_succ, hs, cond_false]
theorem stB_iff {p : List Int} {b : Int} {k : Nat} : stB p b k = true ↔ (k : Int) < p.getD (liN p ((b + k) % (p.length : Int))) 0 := by simp [stB]
theorem c_spec_l02At (p : List Int) (a : Int) (v : Value) (w : World) (h : RdI w v p) (hn : 1 ≤ p.length ∧ p.length ≤ 12) (ha : -100000 ≤ a ∧ a ≤ 100000) :
    Calls Tryz.prog 145 #[v, .int .i64 a] w fun e w' => e = .returned (.int .i64 (p.getD (a % (p.length : Int)).toNat 0)) ∧ w = w' := by
  obtain ⟨a1, cap1, rfl, hl1, hc1⟩ := h
  have h1 : 0 ≤ a % (p.length : Int) := Int.emod_nonneg _ (by omega)
  have h2 : a % (p.length : Int) < p.length := Int.emod_lt_of_pos _ (by omega)
  obtain ⟨r, Hr⟩ : ∃ r : Nat, Hid (a % (p.length : Int) = (r : Int)) := ⟨(a % (p.length : Int)).toNat, by unfold Hid; omega⟩
  rw [Hr.out] at h1 h2
  obtain ⟨b1, o1, rfl, hx⟩ := hc1 r (by omega)
  have HR : Hid (((r : Nat) : Int).toNat = r) := rfl
  go_enter Tryz.func145, Tryz.ntmps145
  go_wp2_with (go_at_call 131; refine (c_spec_l02Mod a (p.length : Int) _ (by omega) (by omega)).mono ?_; rintro e w2 ⟨rfl, rfl⟩; rw [Hr.out])
  go_ret
  refine ⟨?_, rfl⟩
  rw [Hr.out]
  simp [List.getD, show r < p.length by omega]
set_option maxHeartbeats 2000000 in
set_option maxRecDepth 100000 in
theorem c_spec_l08Of (p : List Int) (b h : Int) (v : Value) (w : World) (hr : RdI w v p) (hv : validP p = true) (hb : 0 ≤ b ∧ b ≤ 1000) (hh : 1 ≤ h ∧ h ≤ 10) :
    Calls Tryz.prog 120 #[v, .int .i64 b, .int .i64 h] w fun e w' => e = .returned (.agg #[.int .i64 h, .int .i64 (stM p b h)]) ∧ Below w.heap.size w w' := by
  have HR := Lib.hid hr
  have hv' := validP_iff.1 hv
  have hln := hv'.1.2
  have HV := Lib.hid hv
  have HB := Lib.hid (fun k hk => hv'.1.1 _ (at_mem (p := p) (i := k) hk))
  have HLI := Lib.hid (fun r hr => li_ok hv (r := r) hr)
  obtain ⟨a1, cap1, rfl, hl1, hc1⟩ := hr
  clear hv hv' hc1
  go_enter Tryz.func120, Tryz.ntmps120
  go_wp2
  have k0 : (w.alloc (Obj.cells #[Value.int IntKind.i64 0, Value.int IntKind.i64 0] 25)).cell? ⟨w.heap.size, 0, none⟩ = some (.int .i64 0) := World.cell?_alloc_at _ _ _ _ rfl
  have k1 : (w.alloc (Obj.cells #[Value.int IntKind.i64 0, Value.int IntKind.i64 0] 25)).cell? ⟨w.heap.size, 1, none⟩ = some (.int .i64 0) := World.cell?_alloc_at _ _ _ _ rfl
  have f0 : (w.alloc (Obj.cells #[Value.int IntKind.i64 0, Value.int IntKind.i64 0] 25)).frozen? ⟨w.heap.size, 0, none⟩ = false := World.frozen?_alloc_at _ _ _ _ rfl
  have f1 : (w.alloc (Obj.cells #[Value.int IntKind.i64 0, Value.int IntKind.i64 0] 25)).frozen? ⟨w.heap.size, 1, none⟩ = false := World.frozen?_alloc_at _ _ _ _ rfl
  go_loopw [7, 8] (fun m i wr => ∃ k : Nat, k ≤ h.toNat ∧ i = .int .i64 k ∧ m = .int .i64 (stTo p b k) ∧ wr.cell? ⟨w.heap.size, 0, none⟩ = some (.int .i64 0) ∧ wr.cell? ⟨w.heap.size, 1, none⟩ = some (.int .i64 0) ∧
    wr.frozen? ⟨w.heap.size, 0, none⟩ = false ∧ wr.frozen? ⟨w.heap.size, 1, none⟩ = false ∧ Below w.heap.size w wr) (fun _ i _ => h.toNat - (intOf i).toNat)
  case atStart => exact ⟨0, by omega, rfl, rfl, k0, k1, f0, f1, by (repeat (first | (with_reducible assumption) | (with_reducible exact Below.refl _ _) | (with_reducible refine Below.setCell ?_ (by first | (simp; done) | (simp; omega)) _) | (with_reducible refine Below.al ?_ _) | (with_reducible refine Below.dr ?_) | (with_reducible refine Below.drN ?_ _) | (with_reducible refine Below.tr ?_ (by with_reducible assumption))))⟩
  case round =>
    clear k0 k1 f0 f1
    obtain ⟨k, hk, rfl, rfl, k0, k1, f0, f1, B0⟩ := hrel
    by_cases hlt : k < h.toNat
    · have hlt2 : (k : Int) < h := by omega
      have hrr : 0 ≤ (b + k) % (p.length : Int) ∧ (b + k) % (p.length : Int) < p.length := ⟨Int.emod_nonneg _ (by omega), Int.emod_lt_of_pos _ (by omega)⟩
      obtain ⟨hli, hle⟩ := HLI.out _ hrr
      have hpb := HB.out _ hli
      have HI := Lib.hid (stB_iff (p := p) (b := b) (k := k))
      have hbt := stTo_bd p b k
      have HAT : Hid (p.getD ((b + (k : Int) - p.getD (liN p ((b + k) % (p.length : Int))) 0) % (p.length : Int)).toNat 0 = p.getD (liN p ((b + k) % (p.length : Int))) 0) := by
        have e1 : (b + (k : Int) - p.getD (liN p ((b + k) % (p.length : Int))) 0) % (p.length : Int) = ((liN p ((b + k) % (p.length : Int)) : Nat) : Int) := by
          rw [← Int.emod_eq_of_lt (Int.natCast_nonneg (liN p ((b + k) % (p.length : Int)))) (show ((liN p ((b + k) % (p.length : Int)) : Nat) : Int) < p.length by omega), emod_iff]
          unfold landAt at hle
          have h1 := (emod_iff _ _ _).1 (hle.trans (Int.emod_emod_of_dvd _ (Int.dvd_refl _)).symm |>.trans (Int.emod_emod_of_dvd _ (Int.dvd_refl _)))
          have h2 := Int.dvd_neg.2 h1
          generalize p.getD (liN p ((b + k) % (p.length : Int))) 0 = y at *
          generalize ((liN p ((b + k) % (p.length : Int)) : Nat) : Int) = z at *
          have e : -(z + y - (b + k)) = b + k - y - z := by omega
          rwa [e] at h2
        unfold Hid
        rw [e1, Int.toNat_natCast]
      obtain ⟨x, Hx⟩ : ∃ x, Hid (p.getD (liN p ((b + k) % (p.length : Int))) 0 = x) := ⟨_, rfl⟩
      rw [Hx.out] at hpb HI HAT
      clear hrr hli hle
      cases hs : stB p b k
      · have HN := Lib.hid (stB_false hs)
        have hnl : ¬ (k : Int) < x := fun e => by rw [HI.out.2 e] at hs; cases hs
        have tl : ¬ (b + (k : Int) - x < b) := by omega
        clear hs
        go_wp2_with (go_at_call 144; refine (c_spec_l02From p (b + k) _ _ (HR.out.below B0) HV.out (by omega)).mono ?_; rintro e w2 ⟨rfl, -, hb2⟩; rw [Hx.out])
        go_roundw
        case rel => exact ⟨k + 1, by omega, by go_num, by rw [HN.out], keepc hb2 k0, keepc hb2 k1, frozenc hb2 k0 f0, frozenc hb2 k1 f1, B0.tr hb2⟩
        case measure => simp [intOf]; omega
      · have HN := Lib.hid (or_st hs (show k < 11 by omega))
        have hp1 := pow_le_1024 k (by omega)
        have hp2 := pow_pos_int k
        have hnl : (k : Int) < x := HI.out.1 hs
        have tl : (b + (k : Int) - x < b) := by omega
        have tg : 0 < x := by omega
        clear hs
        go_wp2_with (first
          | (go_at_call 144; refine (c_spec_l02From p (b + k) _ _ (HR.out.below B0) HV.out (by omega)).mono ?_; rintro e w2 ⟨rfl, -, hb2⟩; rw [Hx.out])
          | (go_at_call 145; refine (c_spec_l02At p (b + k - x) _ _ ((HR.out.below B0).below hb2) hln (by omega)).mono ?_; rintro e w3 ⟨rfl, rfl⟩; rw [HAT.out]))
        go_roundw
        case rel => exact ⟨k + 1, by omega, by go_num, by rw [← HN.out], keepc hb2 k0, keepc hb2 k1, frozenc hb2 k0 f0, frozenc hb2 k1 f1, B0.tr hb2⟩
        case measure => simp [intOf]; omega
    · obtain rfl : k = h.toNat := by omega
      have HM : Hid (stTo p b h.toNat = stM p b h) := rfl
      have hlt2 : ¬ ((h.toNat : Nat) : Int) < h := by omega
      obtain ⟨X0, X1, -, hg⟩ := set2 wr w.heap.size (.int .i64 h) (.int .i64 (stTo p b h.toNat)) _ _ k0 k1
      have BZ := (B0.setCell (p := ⟨w.heap.size, 0, none⟩) (Nat.le_refl _) (.int .i64 h)).setCell (p := ⟨w.heap.size, 1, none⟩) (Nat.le_refl _) (.int .i64 (stTo p b h.toNat))
      go_wp2
      generalize ((wr.setCell ⟨w.heap.size, 0, none⟩ (.int .i64 h)).setCell ⟨w.heap.size, 1, none⟩ (.int .i64 (stTo p b h.toNat))) = wz at *
      refine bodyPost_ret (v := .agg #[.int .i64 h, .int .i64 (stTo p b h.toNat)]) (by simp [results, Tryz.results120, go_sem, X0, X1]) rfl ⟨by rw [HM.out], BZ⟩
end Go.Proofs.YtioemkdapoombaaGreatDoor
end
