/- Contracts: spec.PartAt and impl.PartAt. -/
import Derived.Test.YtjjghmmpfnlpaaaThrE
import Derived.Deep.QuietTactic
namespace Go.Proofs.Ytjjghmmpfnlpaaa
open Go.ChangeShapes Go.WideShapes Go.ChangeAt Go.RowKit
set_option linter.unusedSimpArgs false
set_option linter.unusedVariables false
noncomputable def ptX (h : Int) (X : List Part2) (bt : Int) : Int := bif validR h X then (bif inB bt 0 (((thrR h X).length : Int) - 1) then (prtR h X).getD bt.toNat 0 else 0) else 0
noncomputable def ptC (h : Int) (X : List Part2) (bt : Int) : Int := bif validR h X then (bif inB bt 0 (((thrR h X).length : Int) - 1) then 0 else 2) else 1
theorem pt_not {h : Int} {X : List Part2} (bt : Int) (hv : validR h X = false) : ptX h X bt = 0 ∧ ptC h X bt = 1 := by unfold ptX ptC; rw [hv]; exact ⟨rfl, rfl⟩
theorem pt_out {h : Int} {X : List Part2} {bt : Int} (hv : validR h X = true) (hb : inB bt 0 (((thrR h X).length : Int) - 1) = false) : ptX h X bt = 0 ∧ ptC h X bt = 2 := by unfold ptX ptC; rw [hv, hb]; exact ⟨rfl, rfl⟩
theorem pt_in {h : Int} {X : List Part2} {bt : Int} (hv : validR h X = true) (hb : inB bt 0 (((thrR h X).length : Int) - 1) = true) : ptX h X bt = (prtR h X).getD bt.toNat 0 ∧ ptC h X bt = 0 := by unfold ptX ptC; rw [hv, hb]; exact ⟨rfl, rfl⟩
theorem thrI_step (h : Int) (X : List Part2) (k : Nat) : (thrI h X (k + 1)).length = (thrI h X k).length + (brAt h X k).length + (repL (patR X k) (timR X k).toNat).length := by
  show (thrI h X k ++ brAt h X k ++ repL (patR X k) (timR X k).toNat).length = _
  rw [List.length_append, List.length_append]
theorem thrI_last (h : Int) (X : List Part2) : (thrR h X).length = (thrI h X X.length).length + (brAt h X X.length).length := by
  unfold thrR
  rw [thrI_br, List.length_append]
theorem thrI_le (h : Int) (X : List Part2) : ∀ d k, k + d = X.length → (thrI h X k).length ≤ (thrI h X X.length).length
  | 0, k, hk => by rw [show k = X.length by omega]; exact Nat.le_refl _
  | d + 1, k, hk => by
    have := thrI_le h X d (k + 1) (by omega)
    have := thrI_step h X k
    omega
theorem thrI_lt (h : Int) (X : List Part2) {k : Nat} (hk : k ≤ X.length) : (thrI h X k).length + (brAt h X k).length ≤ (thrR h X).length := by
  have e3 := thrI_last h X
  rcases Nat.lt_or_ge k X.length with h1 | h1
  · have e1 := thrI_le h X (X.length - (k + 1)) (k + 1) (by omega)
    have e2 := thrI_step h X k
    omega
  · obtain rfl : k = X.length := by omega
    omega
theorem pt_br {h : Int} {X : List Part2} {bt : Int} {k : Nat} (hv : validR h X = true) (h0 : 0 ≤ bt) (hk : k ≤ X.length) (h1 : ((thrI h X k).length : Int) ≤ bt) (h2 : bt < ((thrI h X k).length : Int) + ((brAt h X k).length : Int)) : ptX h X bt = -1 ∧ ptC h X bt = 0 := by
  have e1 := thrI_lt h X hk
  obtain ⟨p1, p2⟩ := pt_in (h := h) (X := X) (bt := bt) hv (inB_iff.2 ⟨h0, by omega⟩)
  refine ⟨?_, p2⟩
  rw [p1]
  exact prt_br (k := k) (by omega) (by omega) (by omega)
theorem pt_pt {h : Int} {X : List Part2} {bt : Int} {k : Nat} (hv : validR h X = true) (h0 : 0 ≤ bt) (hk : k < X.length) (h1 : ((thrI h X k).length : Int) + ((brAt h X k).length : Int) ≤ bt) (h2 : bt < ((thrI h X k).length : Int) + ((brAt h X k).length : Int) + timR X k * ((patR X k).length : Int)) (R : RoutOk h X) : ptX h X bt = (k : Int) ∧ ptC h X bt = 0 := by
  have e1 := thrI_le h X (X.length - (k + 1)) (k + 1) (by omega)
  have e2 := thrI_step h X k
  have e3 := thrI_last h X
  have e4 : ((repL (patR X k) (timR X k).toNat).length : Int) = timR X k * ((patR X k).length : Int) := by
    rw [repL_len, Int.natCast_mul, Int.toNat_of_nonneg (by have := R.ht k hk; omega)]
  obtain ⟨p1, p2⟩ := pt_in (h := h) (X := X) (bt := bt) hv (inB_iff.2 ⟨h0, by omega⟩)
  refine ⟨?_, p2⟩
  rw [p1]
  exact prt_pt (k := k) hk (by omega) (by omega)
theorem tim_len {h : Int} {X : List Part2} (R : RoutOk h X) {k : Nat} (hk : k < X.length) : ((repL (patR X k) (timR X k).toNat).length : Int) = timR X k * ((patR X k).length : Int) ∧ (repL (patR X k) (timR X k).toNat).length ≤ 240 :=
  ⟨by rw [repL_len, Int.natCast_mul, Int.toNat_of_nonneg (by have := R.ht k hk; omega)], rep_len R hk (by have := R.ht k hk; omega)⟩
set_option maxHeartbeats 8000000 in
set_option maxRecDepth 100000 in
theorem c_spec_PartAt (X : List Part2) (h bt : Int) (v : Value) (w : World) (hr : RdP w v X) :
    Calls Try.prog 40 #[.agg #[.int .i64 h, v], .int .i64 bt] w fun e w' => e = .returned (.tuple #[.int .i64 (ptX h X bt), .int .i64 (ptC h X bt)]) ∧ Below w.heap.size w w' := by
  obtain ⟨W0, hW0, k0, k1, B0⟩ := routOf w 26 h v
  have hr0 := hr.below B0
  have hr' := hr
  obtain ⟨a1, cap1, rfl, -, -⟩ := hr'
  cases hv : validR h X
  · have HC := Lib.hid (pt_not (h := h) (X := X) bt hv)
    go_enter Try.func40, Try.ntmps40
    go_wp2_with fail
    rw [← hW0]
    clear hW0
    refine (c_spec_l19Ok X h _ _ _ hr0 k0 k1).mono ?_; rintro e w1 ⟨rfl, hb1⟩; rw [hv]
    go_wp2
    go_ret2
    exact ⟨by rw [HC.out.1, HC.out.2]; rfl, B0.tr hb1⟩
  · have R := rout_ok hv
    have HV := Lib.hid hv
    have HLE := Lib.hid (fun k (hk : k ≤ X.length) => thrI_len R hk)
    have HTL := Lib.hid (fun k (hk : k < X.length) => tim_len R hk)
    have hxl := R.hl
    go_enter Try.func40, Try.ntmps40
    go_wp2_with fail
    rw [← hW0]
    clear hW0
    refine (c_spec_l19Ok X h _ _ _ hr0 k0 k1).mono ?_; rintro e w1 ⟨rfl, hb1⟩; rw [hv]
    clear hv
    go_wp2_with fail
    refine (c_spec_l19Bridges X h _ _ _ (hr0.below hb1) R (keepc hb1 k0) (keepc hb1 k1)).mono ?_; rintro e w2 ⟨u2, rfl, ho2, hb2⟩
    have BB := hb1.tr hb2
    have k0 := keepc BB k0
    have k1 := keepc BB k1
    have HRW := Lib.hid (hr0.below BB)
    have hG1 := ho2.rd
    obtain ⟨am, cm, rfl, -, -⟩ := ho2.rd
    have HG1 := Lib.hid hG1
    have hbl : Hid ((brR h X).length = X.length + 1) := brR_len h X
    have HB02 := Lib.hid (B0.tr BB)
    clear hG1 ho2 hr0 hr
    have HK0 := Lib.hid k0
    have HK1 := Lib.hid k1
    clear k0 k1
    go_wp2
    go_loopw [7, 8] (fun at_ i wr => ∃ k : Nat, k ≤ X.length ∧ at_ = .int .i64 ((thrI h X k).length : Int) ∧ i = .int .i64 k ∧ Hid (0 ≤ bt → ((thrI h X k).length : Int) ≤ bt) ∧ Below w2.heap.size w2 wr) (fun _ i _ => X.length - (intOf i).toNat)
    case atStart => exact ⟨0, by omega, rfl, rfl, fun h0 => h0, Below.refl _ _⟩
    case round =>
      obtain ⟨k, hk, rfl, rfl, hat, hb⟩ := hrel
      have k0 := keepc hb HK0.out
      have k1 := keepc hb HK1.out
      obtain ⟨T, HT⟩ : ∃ T : Int, Hid (((thrI h X k).length : Int) = T) := ⟨_, rfl⟩
      have hT0 : 0 ≤ T := by have := HT.out; omega
      have hTle := HLE.out k hk
      obtain ⟨D, HD⟩ : ∃ D : Nat, Hid ((brAt h X k).length = D) := ⟨_, rfl⟩
      rw [HT.out]
      by_cases hlt : k < X.length
      · have HST := Lib.hid (thrI_step h X k)
        by_cases hbt : 0 ≤ bt
        · have hat0 := hat.out hbt
          rw [HT.out] at hat0
          obtain ⟨b2, o2, ua, hae, x0, x1, hua⟩ := HRW.out.part k hlt
          subst hae
          have x0 := keepc hb x0
          have x1 := keepc hb x1
          have hua := hua.below hb
          obtain ⟨b3, o3, ur, hbe, z1, hur⟩ := rdG_row HG1.out k (by have := hbl.out; omega)
          subst hbe
          have hkb : k < X.length + 1 := by omega
          rw [br_row hkb] at hur
          have z1 := keepc hb z1
          have hur := hur.below hb
          have htm := HTL.out k hlt
          have hti := R.ht k hlt
          obtain ⟨tm, Htm⟩ : ∃ tm, Hid (timR X k = tm) := ⟨_, rfl⟩
          have hpl := pat_len R hlt
          obtain ⟨pl, Hpl⟩ : ∃ pl : Nat, Hid ((patR X k).length = pl) := ⟨_, rfl⟩
          rw [Htm.out] at x1 htm hti
          obtain ⟨ap, cp, rfl, -, -⟩ := hua
          obtain ⟨ar, cr, rfl, -, -⟩ := hur
          rw [Hpl.out] at x0 htm hpl
          rw [HD.out] at z1 hTle
          have hTn : T + D ≤ 1024 + 8 * 1264 := by have q1 := HT.out; have q3 : k * 1264 ≤ 8 * 1264 := Nat.mul_le_mul_right _ (by omega); omega
          obtain ⟨M, HM⟩ : ∃ M : Int, Hid (tm * (pl : Int) = M) := ⟨_, rfl⟩
          have hM0 : 0 ≤ M := by rw [← HM.out, ← htm.1]; omega
          have hM1 : M ≤ 240 := by rw [← HM.out, ← htm.1]; have := htm.2; omega
          have hMw : IntKind.i64.wrap (tm * (pl : Int)) = M := by rw [HM.out]; exact wraps_i64 M hM0 (by omega)
          have HPB := Lib.hid (fun h2 => pt_br (h := h) (X := X) (bt := bt) (k := k) HV.out hbt (Nat.le_of_lt hlt) (by rw [HT.out]; exact hat0) (by rw [HT.out, HD.out]; exact h2))
          have HPP := Lib.hid (fun h1 h2 => pt_pt (h := h) (X := X) (bt := bt) (k := k) HV.out hbt hlt (by rw [HT.out, HD.out]; exact h1) (by rw [HT.out, HD.out, Htm.out, Hpl.out, HM.out]; exact h2) R)
          have HNX : Hid (((thrI h X (k + 1)).length : Int) = T + D + M) := by
            unfold Hid
            rw [HST.out, Int.natCast_add, Int.natCast_add, HT.out, HD.out, ← HM.out, ← htm.1, Htm.out]
          clear htm
          have hin0 : (0 : Int) ≤ (k : Int) := by omega
          have hin1 : (k : Int) < (X.length : Int) := by omega
          have hin2 : (k : Int) < ((brR h X).length : Int) := by have := hbl.out; omega
          have hlr : (((brR h X).length : Nat) : Int) ≤ 9 := by have := hbl.out; omega
          go_wp2
          · go_ret2
            have h2 := HPB.out (by assumption)
            exact ⟨by rw [h2.1, h2.2]; rfl, HB02.out.tr hb⟩
          go_quiet (fail)
          go_wp2
          · go_ret2
            have h2 := HPP.out (by assumption) (by assumption)
            exact ⟨by rw [h2.1, h2.2]; rfl, HB02.out.tr (hb.drN _)⟩
          · have h9 : T + ↑D + M ≤ bt := by assumption
            exact ⟨⟨k + 1, by omega, by rw [HNX.out], by go_num, fun _ => by rw [HNX.out]; exact h9, hb.drN _⟩, by simp [intOf]; omega⟩
        · have HO : Hid (ptX h X bt = 0 ∧ ptC h X bt = 2) := Lib.hid (pt_out (h := h) (X := X) (bt := bt) HV.out (by cases hq : inB bt 0 (((thrR h X).length : Int) - 1) with | false => rfl | true => exact absurd (inB_iff.1 hq).1 hbt))
          obtain ⟨b4, o4, ur, hbe, z1, hur⟩ := rdG_row HG1.out X.length (by have := hbl.out; omega)
          subst hbe
          rw [br_row (by omega)] at hur
          have z1 := keepc hb z1
          obtain ⟨ar, cr, rfl, hlr2, -⟩ := hur
          have hL := R.brlen X.length
          have hTn : T ≤ 1024 + 8 * 1264 := by have q1 := HT.out; have q3 : k * 1264 ≤ 8 * 1264 := Nat.mul_le_mul_right _ (by omega); omega
          have hlr : (((brR h X).length : Nat) : Int) = (X.length : Int) + 1 := by have := hbl.out; omega
          have hlr2 : (((brR h X).length : Nat) : Int) - 1 = (X.length : Int) := by omega
          obtain ⟨D, HD⟩ : ∃ D : Nat, Hid ((brAt h X X.length).length = D) := ⟨_, rfl⟩
          rw [HD.out] at z1 hL
          have HIN : Hid (inB bt 0 (T + (D : Int) - 1) = false) := by
            unfold Hid
            cases hq : inB bt 0 (T + (D : Int) - 1) with | false => rfl | true => exact absurd (inB_iff.1 hq).1 hbt
          have hx1 : (X.length : Int) ≤ 8 := by omega
          obtain ⟨LB, HLB⟩ : ∃ LB : Nat, Hid ((brR h X).length = LB) := ⟨_, rfl⟩
          rw [HLB.out] at hlr hlr2
          have hlb : LB = X.length + 1 := by omega
          subst hlb
          have hin0 : (0 : Int) ≤ (X.length : Int) := by omega
          clear hlr hlr2
          rw [HLB.out]
          go_wp2_with (first
            | (go_at_call 87; refine (c_spec_l00In _ _ _ _).mono ?_; rintro e w3 ⟨rfl, rfl⟩; rw [HIN.out]))
          go_ret2
          exact ⟨by rw [HO.out.1, HO.out.2]; rfl, HB02.out.tr hb⟩
      · obtain rfl : k = X.length := by omega
        obtain ⟨b4, o4, ur, hbe, z1, hur⟩ := rdG_row HG1.out X.length (by have := hbl.out; omega)
        subst hbe
        rw [br_row (by omega)] at hur
        have z1 := keepc hb z1
        obtain ⟨ar, cr, rfl, hlr2, -⟩ := hur
        have hL := R.brlen X.length
        have hTn : T ≤ 1024 + 8 * 1264 := by have q1 := HT.out; have q3 : X.length * 1264 ≤ 8 * 1264 := Nat.mul_le_mul_right _ (by omega); omega
        obtain ⟨D, HD⟩ : ∃ D : Nat, Hid ((brAt h X X.length).length = D) := ⟨_, rfl⟩
        have HLT : Hid (((thrR h X).length : Int) = T + D) := by
          unfold Hid
          have e1 := thrI_last h X
          have := HT.out
          have := HD.out
          omega
        rw [HD.out] at z1 hL
        obtain ⟨LB, HLB⟩ : ∃ LB : Nat, Hid ((brR h X).length = LB) := ⟨_, rfl⟩
        have hlb : LB = X.length + 1 := by have := hbl.out; have := HLB.out; omega
        subst hlb
        have hin0 : (0 : Int) ≤ (X.length : Int) := by omega
        rw [HLB.out]
        cases hin : inB bt 0 (T + (D : Int) - 1)
        · have HIN := Lib.hid hin
          have HO := Lib.hid (pt_out (h := h) (X := X) (bt := bt) HV.out (by rw [HLT.out]; exact hin))
          clear hin
          go_wp2_with (first
            | (go_at_call 87; refine (c_spec_l00In _ _ _ _).mono ?_; rintro e w3 ⟨rfl, rfl⟩; rw [HIN.out]))
          go_ret2
          exact ⟨by rw [HO.out.1, HO.out.2]; rfl, HB02.out.tr hb⟩
        · have HIN := Lib.hid hin
          have hb2 := inB_iff.1 hin
          have hat1 := hat.out hb2.1
          rw [HT.out] at hat1
          have HO := Lib.hid (pt_br (h := h) (X := X) (bt := bt) (k := X.length) HV.out hb2.1 (Nat.le_refl _) (by rw [HT.out]; exact hat1) (by rw [HT.out, HD.out]; omega))
          clear hin hat1
          go_wp2_with (first
            | (go_at_call 87; refine (c_spec_l00In _ _ _ _).mono ?_; rintro e w3 ⟨rfl, rfl⟩; rw [HIN.out]))
          go_ret2
          exact ⟨by rw [HO.out.1, HO.out.2]; rfl, HB02.out.tr hb⟩
set_option maxHeartbeats 4000000 in
set_option maxRecDepth 100000 in
theorem c_impl_PartAt (X : List Part2) (h bt : Int) (v : Value) (w : World) (hr : RdP w v X) :
    Calls Try.prog 39 #[.agg #[.int .i64 h, v], .int .i64 bt] w fun e w' => e = .returned (.tuple #[.int .i64 (ptX h X bt), .int .i64 (ptC h X bt)]) ∧ Below w.heap.size w w' := by
  obtain ⟨W0, hW0, k0, k1, B0⟩ := routOf w 26 h v
  have hr0 := hr.below B0
  have hr' := hr
  obtain ⟨a1, cap1, rfl, -, -⟩ := hr'
  cases hv : validR h X
  · have HC := Lib.hid (pt_not (h := h) (X := X) bt hv)
    go_enter Try.func39, Try.ntmps39
    go_wp2_with fail
    rw [← hW0]
    clear hW0
    refine (c_impl_ValidRoutine X h _ _ hr0).mono ?_; rintro e w1 ⟨rfl, hb1⟩; rw [hv]
    go_wp2
    go_ret2
    exact ⟨by rw [HC.out.1, HC.out.2]; rfl, B0.tr hb1⟩
  · have R := rout_ok hv
    have HPL := Lib.hid (prtR_len h X)
    have HTL := Lib.hid (thr_len R X.length (Nat.le_refl _))
    have hxl := R.hl
    have HIN := Lib.hid (fun hb => pt_in (h := h) (X := X) (bt := bt) hv hb)
    have HOUT := Lib.hid (fun hb => pt_out (h := h) (X := X) (bt := bt) hv hb)
    go_enter Try.func39, Try.ntmps39
    go_wp2_with fail
    rw [← hW0]
    clear hW0
    refine (c_impl_ValidRoutine X h _ _ hr0).mono ?_; rintro e w1 ⟨rfl, hb1⟩; rw [hv]
    clear hv
    have k0 := keepc hb1 k0
    have k1 := keepc hb1 k1
    go_wp2_with fail
    refine (c_impl_Routine_throws X h _ _ (hr0.below hb1) R).mono ?_; rintro e w2 ⟨u2, q2, rfl, ho2, hq2, hb2⟩
    have HQ := Lib.hid hq2.rd
    have HB := Lib.hid ((B0.tr hb1).tr hb2)
    obtain ⟨a2, c2, rfl, hl2, -⟩ := hq2.rd
    clear ho2 hq2 hr0 hr hb1 hb2 k0 k1
    obtain ⟨N, HN⟩ : ∃ N : Nat, Hid ((prtR h X).length = N) := ⟨_, rfl⟩
    rw [HN.out] at hl2
    have hN : N ≤ 1000000 := by have h1 := HTL.out; have h2 := HPL.out; have h3 := HN.out; unfold thrR at h2; omega
    rw [HN.out]
    have HNT : Hid ((thrR h X).length = N) := by have h2 := HPL.out; have h3 := HN.out; unfold Hid; omega
    cases hin : inB bt 0 ((N : Int) - 1)
    · have HP := Lib.hid (HOUT.out (by rw [HNT.out]; exact hin))
      have HI := Lib.hid hin
      clear hin
      go_wp2_with fail
      refine (c_impl_between _ _ _ _).mono ?_; rintro e w3 ⟨rfl, rfl⟩; rw [HI.out]
      go_wp2
      go_ret2
      exact ⟨by rw [HP.out.1, HP.out.2]; rfl, HB.out⟩
    · have HP := Lib.hid (HIN.out (by rw [HNT.out]; exact hin))
      have HI := Lib.hid hin
      obtain ⟨n0, hn0⟩ := Int.eq_ofNat_of_zero_le (inB_iff.1 hin).1
      have hn1 := (inB_iff.1 hin).2
      clear hin
      obtain ⟨b3, o3, he3, z3⟩ := (RdI.get HQ.out).2.2 n0 (by rw [HN.out]; omega)
      subst he3
      have hb0 : 0 ≤ bt := by omega
      have hb1 : bt < (N : Int) := by omega
      have HZ : Hid (w2.cell? ⟨b3, o3 + bt.toNat, none⟩ = some (.int .i64 ((prtR h X).getD bt.toNat 0))) := by
        have : bt.toNat = n0 := by omega
        rw [this]; exact z3
      obtain ⟨V, HV⟩ : ∃ V, Hid ((prtR h X).getD bt.toNat 0 = V) := ⟨_, rfl⟩
      have z := HZ.out
      rw [HV.out] at z
      clear hn0 z3 HZ
      go_wp2_with fail
      refine (c_impl_between _ _ _ _).mono ?_; rintro e w3 ⟨rfl, rfl⟩; rw [HI.out]
      go_wp2
      go_ret2
      exact ⟨by rw [HP.out.1, HP.out.2, HV.out]; rfl, HB.out⟩
end Go.Proofs.Ytjjghmmpfnlpaaa
