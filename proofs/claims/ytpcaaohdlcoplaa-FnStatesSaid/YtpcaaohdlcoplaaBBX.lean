/- Contracts of the reference that laws on bridges want: Distance, StateIndex, PropsIn, StatesOf. -/
import Derived.Test.YtpcaaohdlcoplaaDist2
import Derived.Test.YtpcaaohdlcoplaaLawC
import Derived.Test.YtpcaaohdlcoplaaBest
namespace Go.Proofs.Ytpcaaohdlcoplaa
open Go.ChangeShapes Go.WideShapes Go.ChangeAt Go.RowKit
set_option linter.unusedVariables false
set_option linter.unusedSimpArgs false
noncomputable def distV (h m h2 m2 : Int) : Int := bif linkC h m h2 m2 == 0 then farM h m m2 else 0
theorem distL_at {h m m2 : Int} (hm : m2 ∈ maskL (popI m) h) : (distL h m).getD (idx (maskL (popI m) h) m2) 0 = farM h m m2 := by
  have hl := idx_lt hm
  have hg := idx_get hm
  unfold distL
  simp [List.getD, hl, hg]
set_option maxHeartbeats 1000000 in
set_option maxRecDepth 100000 in
theorem c_spec_Distance (h m h2 m2 : Int) (w : World) :
    Calls Try.prog 11 #[.agg #[.int .i64 h, .int .i64 m], .agg #[.int .i64 h2, .int .i64 m2]] w fun e w' => e = .returned (.tuple #[.int .i64 (distV h m h2 m2), .int .i64 (linkC h m h2 m2)]) ∧ Below w.heap.size w w' := by
  obtain ⟨W0, hW0, k0, k1, k2, k3, B0⟩ := twoStates w 35 h m h2 m2
  cases hc : (linkC h m h2 m2 != 0)
  · have hc0 : linkC h m h2 m2 = 0 := by simpa using hc
    have hdv : Hid (distV h m h2 m2 = farM h m m2) := by unfold Hid distV; rw [hc0]; rfl
    have HC := Lib.hid hc0
    obtain ⟨hv, hv2, hh, hp⟩ := linkC_ok hc0
    subst hh
    have hk := valid_iff hv
    have hm2 := (valid_bd hv2).2
    have hmem : m2 ∈ maskL (popI m) h := mem_maskL.2 ⟨(valid_iff hv2).2, hp.symm⟩
    have HMEM := Lib.hid hmem
    have HP := Lib.hid hp
    have HV := Lib.hid hv
    have hh1 : 1 ≤ h ∧ h ≤ 10 := hk.1
    have hsoM := Lib.hid (maskL_sorted (popI m) h)
    have hlen := maskL_len (popI m) h hh1
    have hix := idx_lt hmem
    have HDL := Lib.hid (distL_len h m)
    have HAT := Lib.hid (distL_at hmem)
    clear hp hk hmem hc0
    go_enter Try.func11, Try.ntmps11
    go_wp2_with fail
    rw [← hW0]
    refine (c_spec_l09Two _ _ _ _ _).mono ?_; rintro e w1 ⟨rfl, hb1⟩
    have k0 := keepc hb1 k0
    have k1 := keepc hb1 k1
    have k2 := keepc hb1 k2
    have k3 := keepc hb1 k3
    have B1 : Below w.heap.size w w1 := B0.tr hb1
    go_wp2_with fail
    refine (c_spec_l09From _ _ _ HV.out).mono ?_; rintro e w2 ⟨vl, rfl, hl2, hb2⟩
    have k0 := keepc hb2 k0
    have k1 := keepc hb2 k1
    have k2 := keepc hb2 k2
    have k3 := keepc hb2 k3
    have B2 : Below w.heap.size w w2 := B1.tr hb2
    obtain ⟨al, capl, rfl, hll, hlc⟩ := hl2.rd
    obtain ⟨bl, ol, rfl, hlx⟩ := hlc (idx (maskL (popI m) h) m2) (by rw [HDL.out]; exact hix)
    rw [HAT.out] at hlx
    have hx0 : (idx (maskL (popI m) h) m2) < (distL h m).length := by rw [HDL.out]; exact hix
    clear hW0 hb1 hb2 hlc
    obtain ⟨ix, Hix⟩ : ∃ ix : Nat, Hid (idx (maskL (popI m) h) m2 = ix) := ⟨_, rfl⟩
    rw [Hix.out] at hlx hx0
    go_wp2_with fail
    go_region_held3 (fun w' => w'.cell? ⟨w.heap.size + 1, 0, none⟩ = some (.int .i64 h) ∧ w'.cell? ⟨w.heap.size + 1, 1, none⟩ = some (.int .i64 m2) ∧ w'.cell? ⟨bl, ol + ix, none⟩ = some (.int .i64 (farM h m m2)))
      (go_keep)
      (first
        | ((go_at_call 60; refine (c_spec_l08Count m2 _ hm2).mono ?_; rintro e w3 ⟨rfl, rfl⟩; rw [← HP.out]))
        | ((go_at_call 59; refine (c_spec_l09Masks (popI m) h _ (by omega)).mono ?_; rintro e w4 ⟨v4, rfl, ho4, hb4⟩; have hb4' := below_drew hb4; have n2 := keepc hb4' k2; have n3 := keepc hb4' k3; have n4 := keepc hb4' hlx))
        | ((go_at_call 58; refine (c_spec_l09Find (maskL (popI m) h) m2 _ _ ho4.rd hsoM.out HMEM.out (by omega)).mono ?_; rintro e w5 ⟨rfl, rfl⟩; rw [Hix.out])))
    go_wp2
    go_ret2
    exact ⟨by rw [hdv.out, HC.out]; rfl, by (repeat (first | (with_reducible assumption) | (with_reducible exact Below.refl _ _) | (with_reducible refine Below.setCell ?_ (by first | (simp; done) | (simp; omega)) _) | (with_reducible refine Below.al ?_ _) | (with_reducible refine Below.dr ?_) | (with_reducible refine Below.drN ?_ _) | (with_reducible refine Below.tr ?_ (by with_reducible assumption))))⟩
  · have hdv : Hid (distV h m h2 m2 = 0) := by
      have : (linkC h m h2 m2 == 0) = false := by simpa using hc
      unfold Hid distV; rw [this]; rfl
    go_enter Try.func11, Try.ntmps11
    go_wp2_with fail
    rw [← hW0]
    refine (c_spec_l09Two _ _ _ _ _).mono ?_; rintro e w1 ⟨rfl, hb1⟩
    go_wp2
    go_ret2
    exact ⟨by rw [hdv.out]; rfl, by (repeat (first | (with_reducible assumption) | (with_reducible exact Below.refl _ _) | (with_reducible refine Below.setCell ?_ (by first | (simp; done) | (simp; omega)) _) | (with_reducible refine Below.al ?_ _) | (with_reducible refine Below.dr ?_) | (with_reducible refine Below.drN ?_ _) | (with_reducible refine Below.tr ?_ (by with_reducible assumption))))⟩
set_option maxRecDepth 100000 in
theorem c_spec_StateIndex (h m : Int) (w : World) (hv : validB h m = true) :
    Calls Try.prog 13 #[.agg #[.int .i64 h, .int .i64 m]] w fun e w' => e = .returned (.tuple #[.int .i64 (stateIdx h m), .int .i64 0]) ∧ Below w.heap.size w w' := by
  have hmq := (valid_bd hv).2
  have hhq := (valid_bd hv).1
  have hhb : 0 ≤ h ∧ h ≤ 10 := by omega
  have HMEM := Lib.hid (mem_own hv)
  have hsoM := Lib.hid (maskL_sorted (popI m) h)
  have hml := maskL_len (popI m) h hhq
  have HI : Hid (stateIdx h m = ((idx (maskL (popI m) h) m : Nat) : Int)) := by unfold stateIdx; rw [hv]; rfl
  obtain ⟨W0, hW0, k0, k1, B0⟩ := oneState w 35 h m
  go_enter Try.func13, Try.ntmps13
  go_wp2_with fail
  rw [← hW0]
  clear hW0
  refine (c_spec_l08Ok h m _).mono ?_; rintro e w1 ⟨rfl, hb1⟩; rw [hv]
  have k0 := keepc hb1 k0
  have k1 := keepc hb1 k1
  go_wp2_with fail
  go_region_held3 (fun w' => w'.cell? ⟨w.heap.size, 0, none⟩ = some (.int .i64 h) ∧ w'.cell? ⟨w.heap.size, 1, none⟩ = some (.int .i64 m))
    (go_keep)
    (first
      | ((go_at_call 60; refine (c_spec_l08Count m _ hmq).mono ?_; rintro e w2 ⟨rfl, rfl⟩))
      | ((go_at_call 59; refine (c_spec_l09Masks (popI m) h _ hhb).mono ?_; rintro e w3 ⟨v3, rfl, ho3, hb3⟩; have hb3' := below_drew hb3; have p0 := keepc hb3' k0; have p1 := keepc hb3' k1; have hr3 := ho3.rd))
      | ((go_at_call 58; refine (c_spec_l09Find (maskL (popI m) h) m _ _ hr3 hsoM.out HMEM.out (by omega)).mono ?_; rintro e w5 ⟨rfl, rfl⟩)))
  rw [← HI.out]
  go_wp2
  go_ret2
  exact ⟨rfl, (B0.tr hb1).tr hb3'⟩
set_option maxRecDepth 100000 in
theorem c_spec_PropsIn (h m : Int) (w : World) (hv : validB h m = true) :
    Calls Try.prog 30 #[.agg #[.int .i64 h, .int .i64 m]] w fun e w' => e = .returned (.tuple #[.int .i64 (popI m), .int .i64 0]) ∧ Below w.heap.size w w' := by
  have hmq := (valid_bd hv).2
  obtain ⟨W0, hW0, k0, k1, B0⟩ := oneState w 35 h m
  go_enter Try.func30, Try.ntmps30
  go_wp2_with fail
  rw [← hW0]
  clear hW0
  refine (c_spec_l08Ok h m _).mono ?_; rintro e w1 ⟨rfl, hb1⟩; rw [hv]
  have k0 := keepc hb1 k0
  have k1 := keepc hb1 k1
  go_wp2_with fail
  refine (c_spec_l08Count m _ hmq).mono ?_; rintro e w2 ⟨rfl, rfl⟩
  go_wp2
  go_ret2
  exact ⟨rfl, B0.tr hb1⟩
theorem c_spec_StatesOf (p : List Int) (h : Int) (v : Value) (w : World) (hr : RdI w v p) (hc : brC p p h = 0) :
    Calls Try.prog 10 #[v, .int .i64 h] w fun e w' => ∃ u, e = .returned (.tuple #[u, .int .i64 0]) ∧ OwnS w.heap.size w'.heap.size h w' u (stsL p h) ∧ Below w.heap.size w w' := by
  obtain ⟨⟨hv, -⟩, hh, -, -⟩ := brC_ok hc
  have HR := Lib.hid hr
  have HV := Lib.hid hv
  have HC := Lib.hid hc
  clear hr hv hc
  go_enter Try.func10, Try.ntmps10
  go_wp2_with fail
  refine (c_spec_l08Code p h _ _ HR.out).mono ?_; rintro e w1 ⟨rfl, hb1⟩; rw [HC.out]
  go_wp2_with fail
  refine (c_spec_l08States p h _ _ (HR.out.below hb1) HV.out hh).mono ?_; rintro e w2 ⟨u, rfl, ho, hb2⟩
  go_wp2
  go_ret2
  exact ⟨u, rfl, ho.wide (by have := hb1.size; omega) (Nat.le_refl _), hb1.tr hb2⟩
end Go.Proofs.Ytpcaaohdlcoplaa
