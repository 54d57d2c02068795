/- The law LinesX: what it rests on, part 25 of 46. -/
import Derived.Test.YtioemkdapoombaaGreatDoorQLinesX21
import Derived.Test.YtioemkdapoombaaGreatDoorQLinesX24
namespace Go.Proofs.YtioemkdapoombaaGreatDoor
open Go.ChangeShapes Go.WideShapes Go.ChangeAt Go.RowKit
set_option linter.unusedVariables false
set_option linter.unusedSimpArgs false
set_option maxHeartbeats 4000000 in
set_option maxRecDepth 100000 in
theorem c_spec_l27Throws (xs : List Int) (v : Value) (w : World) (h : RdC w v xs) (hx : ∀ x ∈ xs, 0 ≤ x ∧ x < 16) (hl : xs.length ≤ 2000000) :
    Calls Tryz.prog 42 #[v] w fun e w' => ∃ u, e = .returned u ∧ OwnT w.heap.size w'.heap.size w' u (thrL xs) ∧ Below w.heap.size w w' := by
  have H := Lib.hid h
  have HX := Lib.hid hx
  have HTL := Lib.hid (linTo_len xs)
  have HTS := Lib.hid (linTo_succ xs)
  have HPE := Lib.hid (part_eq xs)
  have HLA : Hid (∀ k, lineAt xs k = thrS ++ hexT ((xs.drop (12 * k)).take 12)) := fun _ => rfl
  obtain ⟨a, cap, rfl, hcap⟩ := h.2
  clear h hx
  go_enter Tryz.func42, Tryz.ntmps42
  go_wp2
  go_loopw [3, 4] (fun o i wr => ∃ k : Nat, k ≤ thrN xs.length ∧ i = .int .i64 ((12 * k : Nat) : Int) ∧ OwnT w.heap.size wr.heap.size wr o (linTo xs k) ∧ Below w.heap.size w wr) (fun _ i _ => xs.length - (intOf i).toNat)
  case atStart => exact ⟨0, Nat.zero_le _, rfl, (OwnRow.made rfl rfl (Nat.le_refl _)).tight, by (repeat (first | (with_reducible assumption) | (with_reducible exact Below.refl _ _) | (with_reducible refine Below.setCell ?_ (by first | (simp; done) | (simp; omega)) _) | (with_reducible refine Below.al ?_ _) | (with_reducible refine Below.dr ?_) | (with_reducible refine Below.drN ?_ _) | (with_reducible refine Below.tr ?_ (by with_reducible assumption))))⟩
  case round =>
    obtain ⟨k, hk, rfl, ho, hb⟩ := hrel
    have hk' := hk
    unfold thrN at hk'
    have hkl : (linTo xs k).length < 1000000000 := by rw [HTL.out]; omega
    have hbs := hb.size
    obtain ⟨q, Hq⟩ : ∃ q, Hid (12 * k = q) := ⟨_, Lib.hid rfl⟩
    rw [Hq.out]
    have hq := Hq.out
    by_cases hlt : q < xs.length
    · obtain ⟨r, Hr⟩ : ∃ r : Nat, Hid (r = if xs.length > q + 12 then q + 12 else xs.length) := ⟨_, Lib.hid rfl⟩
      have hr1 : q ≤ r ∧ r ≤ xs.length ∧ r ≤ q + 12 := by have := Hr.out; split at this <;> omega
      obtain ⟨u1, hu1, hc1⟩ := cut_lrI (H.out) (q : Int) (r : Int) (by omega) (by omega) (by omega)
      rw [Int.toNat_natCast, Int.toNat_natCast, HPE.out q r hlt Hr.out] at hc1
      have HT := Lib.hid (HTS.out k)
      have HD0 := HLA.out k
      have HXD := Lib.hid (line_hex HX.out k)
      rw [Hq.out] at HD0 HXD
      have hll : ((xs.drop q).take 12).length ≤ 12 := List.length_take_le _ _
      have HR1 := Lib.hid hc1
      obtain ⟨D, HD⟩ : ∃ D, Hid (hexT ((xs.drop q).take 12) = D) := ⟨_, Lib.hid rfl⟩
      rw [HD.out] at HD0
      rw [HD0] at HT
      have hDs : D.size ≤ 12 := by rw [← HD.out, hexT_size]; exact hll
      unfold thrS at HT
      have hSs2 : ((⟨#[116, 104, 114, 111, 119, 32]⟩ : ByteArray) ++ D).size ≤ 18 := by rw [ByteArray.size_append]; show 6 + D.size ≤ 18; omega
      clear HD0 hc1 hq
      by_cases hc : (q : Int) + 12 < (xs.length : Int)
      all_goals
        obtain ⟨re, HRE⟩ : ∃ re : Int, Hid ((r : Int) = re) := ⟨_, Lib.hid rfl⟩
        rw [HRE.out] at hu1
      · obtain rfl : re = (q : Int) + 12 := by have h2 := Hr.out; have := HRE.out; rw [if_pos (by omega)] at h2; omega
        go_wp2_with fail
        refine (c_textDt _ D HD.out _ _ (HR1.out.below hb).1 HXD.out).mono ?_; rintro e w5 ⟨rfl, hb5⟩
        have hs5 := hb5.size
        have ho5 := ho.below hb5
        go_wp2_with (at_builtin; refine push_row (row := rowT) rfl _ _ _ _ rfl Tryz.underlying29 (.string ⟨#[]⟩) 16 infoTx rfl (by decide) (by decide) rowT_len w.heap.size _ _ _ ((⟨#[116, 104, 114, 111, 119, 32]⟩ : ByteArray) ++ D) #[.string ((⟨#[116, 104, 114, 111, 119, 32]⟩ : ByteArray) ++ D)] _ rfl (rowT_ones _) rfl rfl (by exact ho5) hkl (by omega) ?_; intro v' w6 hown6 hbel6 hs6)
        go_roundw
        case rel => exact ⟨k + 1, by have := Hq.out; unfold thrN; omega, by have := Hq.out; congr 1; omega, by rw [HT.out]; exact hown6, hbel6 _ (hb.tr hb5)⟩
        case measure => simp [intOf]; omega
      · obtain rfl : re = (xs.length : Int) := by have h2 := Hr.out; have := HRE.out; rw [if_neg (by omega)] at h2; omega
        go_wp2_with fail
        refine (c_textDt _ D HD.out _ _ (HR1.out.below hb).1 HXD.out).mono ?_; rintro e w5 ⟨rfl, hb5⟩
        have hs5 := hb5.size
        have ho5 := ho.below hb5
        go_wp2_with (at_builtin; refine push_row (row := rowT) rfl _ _ _ _ rfl Tryz.underlying29 (.string ⟨#[]⟩) 16 infoTx rfl (by decide) (by decide) rowT_len w.heap.size _ _ _ ((⟨#[116, 104, 114, 111, 119, 32]⟩ : ByteArray) ++ D) #[.string ((⟨#[116, 104, 114, 111, 119, 32]⟩ : ByteArray) ++ D)] _ rfl (rowT_ones _) rfl rfl (by exact ho5) hkl (by omega) ?_; intro v' w6 hown6 hbel6 hs6)
        go_roundw
        case rel => exact ⟨k + 1, by have := Hq.out; unfold thrN; omega, by have := Hq.out; congr 1; omega, by rw [HT.out]; exact hown6, hbel6 _ (hb.tr hb5)⟩
        case measure => simp [intOf]; omega
    · have hk2 : k = thrN xs.length := by unfold thrN; omega
      have HT : Hid (linTo xs k = thrL xs) := by rw [hk2]; rfl
      clear hk2 hq
      go_wp2
      go_ret
      exact ⟨_, rfl, by rw [← HT.out]; exact ho, hb⟩
theorem lin_none {h m : Int} {xs : List Int} (hv : validB h m = false) : Hid (linC h m xs = 1) ∧ Hid (linL h m xs = []) := by unfold Hid linC linL; rw [hv]; exact ⟨rfl, rfl⟩
theorem lin_stop {h m : Int} {xs : List Int} (hv : validB h m = true) (hr : runOk h m xs = false) : Hid (linC h m xs = 6) ∧ Hid (linL h m xs = []) := by unfold Hid linC linL; rw [hv, hr]; exact ⟨rfl, rfl⟩
theorem runC_of {h m : Int} {xs : List Int} (hv : validB h m = true) : runC h m xs = bif runOk h m xs then 0 else 6 := by unfold runC; rw [hv]; rfl
def doneR (h m : Int) (L : List ByteArray) : List ByteArray := (staS ++ stT h m) :: (L ++ [endS])
def doneC (L : List ByteArray) : Int := bif decide (L.length ≤ 58) then 0 else 5
def doneL (h m : Int) (L : List ByteArray) : List ByteArray := bif decide (L.length ≤ 58) then doneR h m L else []
set_option maxHeartbeats 4000000 in
set_option maxRecDepth 100000 in
theorem c_spec_l27Done (h m : Int) (L : List ByteArray) (u : Value) (w : World) (hv : validB h m = true) (hr : RdRow 1 rowT w u L) (hl : L.length ≤ 2000000) :
    Calls Tryz.prog 41 #[.agg #[.int .i64 h, .int .i64 m], u] w fun e w' => ∃ r, e = .returned (.tuple #[r, .int .i64 (doneC L)]) ∧ OwnT w.heap.size w'.heap.size w' r (doneL h m L) ∧ Below w.heap.size w w' := by
  have HR := Lib.hid hr
  have HV := Lib.hid hv
  obtain ⟨W0, hW0, k0, k1, B0⟩ := oneState w 25 h m
  have HLR : Hid (doneR h m L = (staS ++ stT h m) :: (L ++ [endS])) := rfl
  have hh := (valid_bd hv).1
  have hst : (stT h m).size ≤ 10 := by rw [stT_size]; omega
  clear hr hv
  by_cases hlen : L.length ≤ 58
  all_goals
    have X := Lib.hid (show doneC L = (bif decide (L.length ≤ 58) then 0 else 5) from rfl)
    have Y := Lib.hid (show doneL h m L = (bif decide (L.length ≤ 58) then doneR h m L else []) from rfl)
    first | rw [decide_eq_true hlen] at X Y | rw [decide_eq_false hlen] at X Y
    go_enter Tryz.func41, Tryz.ntmps41
    go_wp2_with fail
    rw [← hW0]
    clear hW0
    refine (c_spec_l08Text h m _ HV.out).mono ?_; rintro e w2 ⟨rfl, hb2⟩
    have B2 : Below w.heap.size w w2 := B0.tr hb2
    obtain ⟨S, HS⟩ : ∃ S, Hid (stT h m = S) := ⟨_, Lib.hid rfl⟩
    rw [HS.out] at HLR hst ⊢
    have hSs : ((⟨#[115, 116, 97, 114, 116, 32]⟩ : ByteArray) ++ S).size ≤ 16 := by rw [ByteArray.size_append]; show 6 + S.size ≤ 16; omega
    have hs2 := B2.size
    have one := oneText w2 ((⟨#[115, 116, 97, 114, 116, 32]⟩ : ByteArray) ++ S)
    have hr3 := HR.out.below (B2.al (Obj.cells #[Value.string ((⟨#[115, 116, 97, 114, 116, 32]⟩ : ByteArray) ++ S)] 9))
    have B3 := B2.al (Obj.cells #[Value.string ((⟨#[115, 116, 97, 114, 116, 32]⟩ : ByteArray) ++ S)] 9)
    have hlt3 : ([((⟨#[115, 116, 97, 114, 116, 32]⟩ : ByteArray) ++ S)]).length + L.length < 1000000000 := by show 1 + _ < _; omega
    have hlt4 : ([((⟨#[115, 116, 97, 114, 116, 32]⟩ : ByteArray) ++ S)] ++ L).length < 1000000000 := by rw [List.length_append]; exact hlt3
    have hz3 : w2.heap.size ≤ (w2.alloc (Obj.cells #[Value.string ((⟨#[115, 116, 97, 114, 116, 32]⟩ : ByteArray) ++ S)] 9)).heap.size := by rw [World.size_alloc]; omega
    have HLN : Hid (([((⟨#[115, 116, 97, 114, 116, 32]⟩ : ByteArray) ++ S)] ++ L ++ [(⟨#[101, 110, 100]⟩ : ByteArray)]).length = L.length + 2) := by unfold Hid; simp
    go_wp2_with (first
      | (at_builtin; refine push_rows (row := rowT) rfl _ _ _ _ rfl Tryz.underlying29 (.string ⟨#[]⟩) 16 infoTx rfl (by decide) rowT_len rowT_ones w2.heap.size _ _ _ _ _ _ rfl rfl (by exact one) ⟨_, _, _, rfl⟩ (by exact hr3) hlt3 (by exact hz3) ?_; intro v4 w4 ho4 hg4 hat4 hs4)
      | (at_builtin; refine push_row_at (row := rowT) rfl _ _ _ _ rfl Tryz.underlying29 (.string ⟨#[]⟩) 16 infoTx rfl (by decide) (by decide) rowT_len w2.heap.size _ _ _ (⟨#[101, 110, 100]⟩ : ByteArray) #[.string (⟨#[101, 110, 100]⟩ : ByteArray)] _ rfl (rowT_ones _) rfl rfl (by exact ho4) hlt4 (by omega) ?_; intro v5 w5 hown5 hbel5 hs5 hg5 hat5; have HO5 := Lib.hid hown5; obtain ⟨ad5, cap5, rfl, hl5, -⟩ := OwnRow.rd rowT_len hown5; rw [HLN.out] at hl5 HO5 ⊢; clear hown5))
    go_ret2
    refine ⟨_, by rw [X.out]; rfl, ?_, ?_⟩
    · rw [Y.out]
      first
        | exact OwnRow.nil _ rfl
        | (show OwnT _ _ _ _ (doneR h m L); rw [HLR.out]; exact HO5.out.wide hs2 (Nat.le_refl _))
    · have hl4 := World.ownsRow.lt ho4.1
      have hl3 := World.ownsRow.lt one.1
      exact (B3.grown hg4 B3.size (fun q hq => Nat.le_trans hs2 (hl3 q hq).1)).grown hg5 (by have := B3.size; omega) (fun q hq => Nat.le_trans hs2 (hl4 q hq).1)
theorem lin_eq {h m : Int} {xs : List Int} (hv : validB h m = true) (hr : runOk h m xs = true) : Hid (linC h m xs = doneC (thrL xs)) ∧ Hid (linL h m xs = doneL h m (thrL xs)) := by
  unfold Hid linC linL doneC doneL linR doneR
  rw [hv, hr, thrL_len]
  by_cases hl : xs.length ≤ 696
  · have h2 : thrN xs.length ≤ 58 := by unfold thrN; omega
    rw [decide_eq_true hl, decide_eq_true h2]; exact ⟨rfl, rfl⟩
  · have h2 : ¬ thrN xs.length ≤ 58 := by unfold thrN; omega
    rw [decide_eq_false hl, decide_eq_false h2]; exact ⟨rfl, rfl⟩
set_option maxHeartbeats 4000000 in
set_option maxRecDepth 100000 in
theorem c_spec_LinesOf (h m : Int) (xs : List Int) (v : Value) (w : World) (hr : RdC w v xs) (hl : xs.length ≤ 2000000) :
    Calls Tryz.prog 8 #[.agg #[.int .i64 h, .int .i64 m], v] w fun e w' => ∃ r, e = .returned (.tuple #[r, .int .i64 (linC h m xs)]) ∧ OwnT w.heap.size w'.heap.size w' r (linL h m xs) ∧ Below w.heap.size w w' := by
  have HR := Lib.hid hr
  obtain ⟨a, cap, rfl, hcap⟩ := hr.2
  obtain ⟨W0, hW0, k0, k1, B0⟩ := oneState w 25 h m
  clear hr
  cases hv : validB h m
  · obtain ⟨X1, X2⟩ := lin_none (xs := xs) hv
    go_enter Tryz.func8, Tryz.ntmps8
    go_wp2_with fail
    rw [← hW0]
    clear hW0
    refine (c_spec_l08Ok h m _).mono ?_; rintro e w1 ⟨rfl, hb1⟩; rw [hv]
    go_wp2
    go_ret2
    exact ⟨_, by rw [X1.out]; rfl, by rw [X2.out]; exact OwnRow.nil _ rfl, by (repeat (first | (with_reducible assumption) | (with_reducible exact Below.refl _ _) | (with_reducible refine Below.setCell ?_ (by first | (simp; done) | (simp; omega)) _) | (with_reducible refine Below.al ?_ _) | (with_reducible refine Below.dr ?_) | (with_reducible refine Below.drN ?_ _) | (with_reducible refine Below.tr ?_ (by with_reducible assumption))))⟩
  · cases hok : runOk h m xs
    · obtain ⟨X1, X2⟩ := lin_stop hv hok
      have HC : Hid (runC h m xs = 6) := by unfold Hid; rw [runC_of hv, hok]; rfl
      clear hok
      go_enter Tryz.func8, Tryz.ntmps8
      go_wp2_with fail
      rw [← hW0]
      clear hW0
      refine (c_spec_l08Ok h m _).mono ?_; rintro e w1 ⟨rfl, hb1⟩; rw [hv]
      have k0 := keepc hb1 k0
      have k1 := keepc hb1 k1
      have B1 := B0.tr hb1
      clear hv
      go_wp2_with fail
      refine (c_spec_RunThrows h m xs _ _ (HR.out.below B1).1).mono ?_; rintro e w2 ⟨rfl, hb2⟩; rw [HC.out]
      go_wp2
      go_ret2
      exact ⟨_, by rw [X1.out]; rfl, by rw [X2.out]; exact OwnRow.nil _ rfl, by (repeat (first | (with_reducible assumption) | (with_reducible exact Below.refl _ _) | (with_reducible refine Below.setCell ?_ (by first | (simp; done) | (simp; omega)) _) | (with_reducible refine Below.al ?_ _) | (with_reducible refine Below.dr ?_) | (with_reducible refine Below.drN ?_ _) | (with_reducible refine Below.tr ?_ (by with_reducible assumption))))⟩
    · obtain ⟨X1, X2⟩ := lin_eq hv hok
      have HC : Hid (runC h m xs = 0) := by unfold Hid; rw [runC_of hv, hok]; rfl
      have HV := Lib.hid hv
      have HX := Lib.hid (run_hex hv hok)
      have HTL := Lib.hid (thrL_len xs)
      clear hok
      go_enter Tryz.func8, Tryz.ntmps8
      go_wp2_with fail
      rw [← hW0]
      clear hW0
      refine (c_spec_l08Ok h m _).mono ?_; rintro e w1 ⟨rfl, hb1⟩; rw [hv]
      have k0 := keepc hb1 k0
      have k1 := keepc hb1 k1
      have B1 := B0.tr hb1
      clear hv
      go_wp2_with fail
      refine (c_spec_RunThrows h m xs _ _ (HR.out.below B1).1).mono ?_; rintro e w2 ⟨rfl, hb2⟩; rw [HC.out]
      have k0 := al_c (Obj.cells #[Value.int IntKind.i64 (runH h m), Value.int IntKind.i64 (runS h m xs)] 25) (keepc hb2 k0)
      have k1 := al_c (Obj.cells #[Value.int IntKind.i64 (runH h m), Value.int IntKind.i64 (runS h m xs)] 25) (keepc hb2 k1)
      have B2 := (B1.tr hb2).al (Obj.cells #[Value.int IntKind.i64 (runH h m), Value.int IntKind.i64 (runS h m xs)] 25)
      go_wp2_with fail
      generalize (w2.alloc (Obj.cells #[Value.int IntKind.i64 (runH h m), Value.int IntKind.i64 (runS h m xs)] 25)) = W3 at *
      have hRB := HR.out.below B2
      go_region_held3 (fun w' => w'.cell? ⟨w.heap.size, 0, none⟩ = some (.int .i64 h) ∧ w'.cell? ⟨w.heap.size, 1, none⟩ = some (.int .i64 m))
        (go_keep)
        (first
          | ((go_at_call 42; refine (c_spec_l27Throws xs _ _ (by exact hRB) HX.out hl).mono ?_; rintro e w4 ⟨u4, rfl, ho4, hb4⟩; have hb4' := below_drew hb4; have z0 := keepc hb4' k0; have z1 := keepc hb4' k1; have hr4 := OwnRow.rd rowT_len ho4))
          | ((go_at_call 41; refine (c_spec_l27Done h m (thrL xs) _ _ HV.out hr4 (by rw [HTL.out]; unfold thrN; omega)).mono ?_; rintro e w5 ⟨u5, rfl, ho5, hb5⟩; have z2 := keepc hb5 z0; have z3 := keepc hb5 z1)))
      go_wp2
      go_ret2
      have hs2 := B2.size
      have hs4 := hb4'.size
      exact ⟨_, by rw [X1.out]; rfl, by rw [X2.out]; exact ho5.wide (by omega) (Nat.le_refl _), (B2.tr hb4').tr hb5⟩
end Go.Proofs.YtioemkdapoombaaGreatDoor
