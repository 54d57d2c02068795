/- The law WrittenX: what it rests on, part 37 of 46. -/
import Derived.Test.YtioemkdapoombaaGreatDoorQWrittenX24
import Derived.Test.YtioemkdapoombaaGreatDoorQWrittenX31
import Derived.Test.YtioemkdapoombaaGreatDoorQWrittenX35
import Derived.Test.YtioemkdapoombaaGreatDoorQWrittenX36
section
namespace Go.Proofs.YtioemkdapoombaaGreatDoor
open Go.ChangeShapes Go.WideShapes Go.ChangeAt Go.RowKit
set_option linter.unusedSimpArgs false
set_option linter.unusedVariables false
/-- the throws up to part k, with the bridge behind it -/
noncomputable def thrTo (h : Int) (X : List Part2) : Nat → List Int
  | 0 => brAt h X 0
  | k + 1 => thrTo h X k ++ repL (patR X k) (timR X k).toNat ++ brAt h X (k + 1)
noncomputable def thrR (h : Int) (X : List Part2) : List Int := thrTo h X X.length
theorem pat_len {h : Int} {X : List Part2} (R : RoutOk h X) {k : Nat} (hk : k < X.length) : 1 ≤ (patR X k).length ∧ (patR X k).length ≤ 12 := by
  have hv := R.hv k hk
  unfold validP at hv
  rw [Bool.and_eq_true] at hv
  have := (okThrows_iff.1 hv.1).2
  omega
theorem rep_len {h : Int} {X : List Part2} (R : RoutOk h X) {k : Nat} (hk : k < X.length) {t : Nat} (ht : t ≤ 20) : (repL (patR X k) t).length ≤ 240 := by
  rw [repL_len]
  have := (pat_len R hk).2
  exact Nat.le_trans (Nat.mul_le_mul ht this) (by decide)
theorem thr_len {h : Int} {X : List Part2} (R : RoutOk h X) : ∀ k, k ≤ X.length → (thrTo h X k).length ≤ 1024 + k * 1264
  | 0, _ => by have := R.brlen 0; simp [thrTo]; exact this
  | k + 1, hk => by
    have ih := thr_len R k (by omega)
    have h1 := R.brlen (k + 1)
    have h2 := rep_len R (k := k) (by omega) (t := (timR X k).toNat) (by have := R.ht k (by omega); omega)
    show ((thrTo h X k ++ repL (patR X k) (timR X k).toNat ++ brAt h X (k + 1))).length ≤ _
    rw [List.length_append, List.length_append, Nat.succ_mul]
    omega
theorem rdG_row {w : World} {a : Option Addr} {n cap : Nat} {X : List (List Int)} (h : RdG w (.slice a n cap) X) (k : Nat) (hk : k < X.length) : ∃ b off u, a = some ⟨b, off, none⟩ ∧ w.cell? ⟨b, off + k, none⟩ = some u ∧ RdI w u (X.getD k []) := by
  obtain ⟨a', cap', he, _, hc⟩ := h
  cases he
  exact hc k hk
theorem br_row {h : Int} {X : List Part2} {k : Nat} (hk : k < X.length + 1) : (brR h X).getD k [] = brAt h X k := by
  unfold brR brTo
  simp [List.getD, hk]
theorem c_spec_l00Own' (xs : List Int) (v : Value) (w : World) (hr : RdI w v xs) (hl : xs.length ≤ 1000000) :
    Calls Tryz.prog 92 #[v] w fun e w' => ∃ u, e = .returned u ∧ OwnI1 w.heap.size w' u xs ∧ (∃ ad n cap, u = .slice (some ad) n cap) ∧ Below w.heap.size w w' := by
  have hr' := hr.below ((Below.refl _ _).al (Obj.cells #[] 2))
  have ho : OwnI1 w.heap.size (w.alloc (Obj.cells #[] 2)) (.slice (some ⟨w.heap.size, 0, none⟩) 0 0) [] := OwnI.made rfl rfl (Nat.le_refl _)
  have hb0 : Below w.heap.size w (w.alloc (Obj.cells #[] 2)) := (Below.refl _ _).al _
  go_enter Tryz.func92, Tryz.ntmps92
  go_wp2_with (at_builtin; refine push_ints rfl _ _ _ _ rfl Tryz.underlying26 infoI w.heap.size _ _ [] xs _ rfl rfl (by exact ho) ⟨_, _, _, rfl⟩ (by exact hr') (by simp only [List.length_nil]; omega) (by simp) ?_; intro v2 w2 ho2 hg2 hat2 hs2)
  go_ret
  exact ⟨_, rfl, by simpa using ho2, some_next ⟨_, _, _, rfl⟩ ho2 hat2, hb0.grown hg2 (by simp) (fun k hk => (World.ownsRow.lt ho k hk).1)⟩
set_option maxHeartbeats 8000000 in
set_option maxRecDepth 100000 in
theorem c_spec_l19Throws (X : List Part2) (h : Int) (v : Value) (g : Nat) (w : World) (hr : RdP w v X) (R : RoutOk h X) (k0 : w.cell? ⟨g, 0, none⟩ = some (.int .i64 h)) (k1 : w.cell? ⟨g, 1, none⟩ = some v) :
    Calls Tryz.prog 56 #[.pointer (some ⟨g, 0, none⟩)] w fun e w' => ∃ u, e = .returned u ∧ OwnI1 w.heap.size w' u (thrR h X) ∧ Below w.heap.size w w' := by
  have hr' := hr
  obtain ⟨a1, cap1, rfl, hl1, -⟩ := hr'
  have HRW := Lib.hid hr
  have hxl := R.hl
  have h0 : 0 < X.length := by omega
  clear hr
  go_enter Tryz.func56, Tryz.ntmps56
  go_wp2_with fail
  refine (c_spec_l19Bridges X h _ g _ HRW.out R k0 k1).mono ?_; rintro e w1 ⟨u1, rfl, ho1, hb1⟩
  have hG1 := ho1.rd
  obtain ⟨am, cm, rfl, -, -⟩ := ho1.rd
  have HG1 := Lib.hid hG1
  have hbl : (brR h X).length = X.length + 1 := brR_len h X
  obtain ⟨bm, om, r0, rfl, z0, hr0⟩ := rdG_row hG1 0 (by omega)
  rw [br_row (by omega)] at hr0
  have z0 : w1.cell? ⟨bm, om, none⟩ = some r0 := by simpa using z0
  have hin : (0 : Int) < ((brR h X).length : Int) := by omega
  have hb0 := R.brlen 0
  have HK0 := Lib.hid k0
  have HK1 := Lib.hid k1
  have hgw : g < w.heap.size := World.block_lt_of_cell? w _ k0
  clear hG1 ho1
  go_wp2_with fail
  refine (c_spec_l00Own' (brAt h X 0) _ _ hr0 (by omega)).mono ?_; rintro e w2 ⟨u2, rfl, ho2, hs2, hb2⟩
  have B2 := hb1.tr hb2
  have k0 := keepc B2 k0
  have k1 := keepc B2 k1
  have HRL := Lib.hid (fun k => R.brlen (k := k))
  have HTL := Lib.hid (fun k hk => thr_len R k hk)
  have ht0 : Hid (thrTo h X 0 = brAt h X 0) := rfl
  rw [← ht0.out] at ho2
  have hs1 := hb1.size
  go_wp2_with fail
  go_loopw [4, 5] (fun out i wr => ∃ k : Nat, k ≤ X.length ∧ i = .int .i64 k ∧ OwnI1 w1.heap.size wr out (thrTo h X k) ∧ (∃ ad n cap, out = .slice (some ad) n cap) ∧ Below w1.heap.size w1 wr) (fun _ i _ => X.length - (intOf i).toNat)
  case atStart => exact ⟨0, by omega, rfl, ho2, hs2, hb2⟩
  case round =>
    clear ho2 hs2 z0 hr0
    obtain ⟨k, hk, rfl, hout, hso, hb⟩ := hrel
    have BT := hb1.tr hb
    have k0 := keepc BT HK0.out
    have k1 := keepc BT HK1.out
    by_cases hlt : k < X.length
    · obtain ⟨b2, o2, ua, hae, x0, x1, hua⟩ := HRW.out.part k hlt
      subst hae
      have x0 := keepc BT x0
      have x1 := keepc BT x1
      have hua := hua.below BT
      obtain ⟨b3, o3, ur, hbe, z1, hur⟩ := rdG_row HG1.out (k + 1) (by omega)
      cases hbe
      rw [br_row (by omega)] at hur
      have z1 := keepc hb z1
      have hur := hur.below hb
      have htm := R.ht k hlt
      obtain ⟨tm, Htm⟩ : ∃ tm, Hid (timR X k = tm) := ⟨_, rfl⟩
      rw [Htm.out] at x1 htm
      obtain ⟨wo, rfl⟩ : ∃ wo : World, wo = wr := ⟨_, rfl⟩
      have hin0 : (0 : Int) ≤ (k : Int) := by omega
      have hin1 : (k : Int) < (X.length : Int) := by omega
      have hr00 : Hid (repL (patR X k) 0 = []) := rfl
      go_wp2_with fail
      go_loopw [4, 6] (fun out i wr => ∃ t : Nat, (t : Int) ≤ tm ∧ i = .int .i64 t ∧ OwnI1 w1.heap.size wr out (thrTo h X k ++ repL (patR X k) t) ∧ (∃ ad n cap, out = .slice (some ad) n cap) ∧ Below w1.heap.size w1 wr) (fun _ i _ => tm.toNat - (intOf i).toNat)
      case atStart => exact ⟨0, by omega, rfl, by rw [hr00.out, List.append_nil]; exact hout, hso, hb⟩
      case round =>
        obtain ⟨t, ht, rfl, hout2, hso2, hb2⟩ := hrel
        obtain ⟨ad2, n2, cap2, hse⟩ := hso2
        subst hse
        have BT2 := hb1.tr hb2
        have y0 : wr.cell? ⟨g, 0, none⟩ = some (.int .i64 h) := keepc BT2 HK0.out
        have y1 : wr.cell? ⟨g, 1, none⟩ = some (.slice (some ⟨b2, o2, none⟩) X.length cap1) := keepc BT2 HK1.out
        obtain ⟨b4, o4, ua2, hae, x0, x1, hua2⟩ := HRW.out.part k hlt
        cases hae
        have x0 := keepc BT2 x0
        have x1 := keepc BT2 x1
        have hua2 := hua2.below BT2
        rw [Htm.out] at x1
        have hlo := World.ownsRow.lt hout2
        have hbs := hb2.size
        have HRS := Lib.hid (repL_succ (patR X k) t)
        by_cases htl : (t : Int) < tm
        · have hll : (thrTo h X k ++ repL (patR X k) t).length + (patR X k).length < 1000000000 := by
            have h1 := HTL.out k (by omega)
            have h2 := rep_len R hlt (t := t) (by omega)
            have h3 := pat_len R hlt
            rw [List.length_append]; omega
          have ht0' : (0 : Int) ≤ (t : Int) := by omega
          go_wp2_with (at_builtin; refine push_ints rfl _ _ _ _ rfl Tryz.underlying26 infoI w1.heap.size _ _ (thrTo h X k ++ repL (patR X k) t) (patR X k) _ rfl rfl (by exact hout2) ⟨_, _, _, rfl⟩ (by exact hua2) hll hbs ?_; intro v9 w9 ho9 hg9 hat9 hs9; refine stop_of ?_)
          unfold Stopped
          have hso9 := some_next ⟨_, _, _, rfl⟩ ho9 hat9
          rw [List.append_assoc, ← HRS.out] at ho9
          have HO9 := Lib.hid ho9
          have B9 : Below w1.heap.size w1 w9 := hb2.grown hg9 hbs (fun q hq => (hlo q hq).1)
          clear ho9
          go_wp2
          go_roundw
          case rel => exact ⟨t + 1, by omega, by go_num, HO9.out, hso9, B9⟩
          case measure => simp [intOf]; omega
        · obtain rfl : tm = (t : Int) := by omega
          obtain ⟨b5, o5, ur2, hbe, z1, hur2⟩ := rdG_row HG1.out (k + 1) (by omega)
          cases hbe
          rw [br_row (by omega)] at hur2
          have z1 := keepc hb2 z1
          have hur2 := hur2.below hb2
          have htt : (timR X k).toNat = t := by have := Htm.out; omega
          have HST : Hid (thrTo h X (k + 1) = thrTo h X k ++ repL (patR X k) t ++ brAt h X (k + 1)) := by unfold Hid; rw [← htt]; rfl
          have hll : (thrTo h X k ++ repL (patR X k) t).length + (brAt h X (k + 1)).length < 1000000000 := by
            have h1 := HTL.out k (by omega)
            have h2 := rep_len R hlt (t := t) (by omega)
            have h3 := HRL.out (k + 1)
            rw [List.length_append]; omega
          clear htt
          have hin2 : (0 : Int) ≤ (k : Int) + 1 := by omega
          have hin3 : (k : Int) + 1 < (X.length : Int) + 1 := by omega
          have z1 : wr.cell? ⟨bm, om + (k + 1), none⟩ = some ur2 := z1
          go_wp2_with (at_builtin; refine push_ints rfl _ _ _ _ rfl Tryz.underlying26 infoI w1.heap.size _ _ (thrTo h X k ++ repL (patR X k) t) (brAt h X (k + 1)) _ rfl rfl (by exact hout2) ⟨_, _, _, rfl⟩ (by exact hur2) hll hbs ?_; intro v9 w9 ho9 hg9 hat9 hs9; refine stop_of ?_)
          unfold Stopped
          have hso9 := some_next ⟨_, _, _, rfl⟩ ho9 hat9
          rw [← HST.out] at ho9
          have HO9 := Lib.hid ho9
          have B9 : Below w1.heap.size w1 w9 := hb2.grown hg9 hbs (fun q hq => (hlo q hq).1)
          clear ho9
          go_wp2
          go_roundw
          case rel => exact ⟨k + 1, by omega, by go_num, HO9.out, hso9, B9⟩
          case measure => simp [intOf]; omega
    · obtain rfl : k = X.length := by omega
      have HE : Hid (thrTo h X X.length = thrR h X) := rfl
      rw [HE.out] at hout
      go_wp2
      go_ret
      exact ⟨_, rfl, hout.base hs1, BT⟩
noncomputable def thX (h : Int) (X : List Part2) : List Int := bif validR h X then thrR h X else []
theorem c_spec_RoutineThrows (X : List Part2) (h : Int) (v : Value) (w : World) (hr : RdP w v X) :
    Calls Tryz.prog 14 #[.agg #[.int .i64 h, v]] w fun e w' => ∃ u, e = .returned (.tuple #[u, .int .i64 (rtC h X)]) ∧ OwnI1 w.heap.size w' u (thX h X) ∧ Below w.heap.size w w' := by
  obtain ⟨W0, hW0, k0, k1, B0⟩ := routOf w 34 h v
  have hr0 := hr.below B0
  have hr' := hr
  obtain ⟨a1, cap1, rfl, -, -⟩ := hr'
  cases hv : validR h X
  · have HC : Hid (rtC h X = 1) := by unfold Hid rtC; rw [hv]; rfl
    have HX : Hid (thX h X = []) := by unfold Hid thX; rw [hv]; rfl
    go_enter Tryz.func14, Tryz.ntmps14
    go_wp2_with fail
    rw [← hW0]
    clear hW0
    refine (c_spec_l19Ok X h _ _ _ hr0 k0 k1).mono ?_; rintro e w1 ⟨rfl, hb1⟩; rw [hv]
    go_wp2
    go_ret2
    exact ⟨_, by rw [HC.out]; rfl, by rw [HX.out]; exact OwnI.nil _ rfl, B0.tr hb1⟩
  · have HC : Hid (rtC h X = 0) := by unfold Hid rtC; rw [hv]; rfl
    have HX : Hid (thX h X = thrR h X) := by unfold Hid thX; rw [hv]; rfl
    have R := rout_ok hv
    go_enter Tryz.func14, Tryz.ntmps14
    go_wp2_with fail
    rw [← hW0]
    clear hW0
    refine (c_spec_l19Ok X h _ _ _ hr0 k0 k1).mono ?_; rintro e w1 ⟨rfl, hb1⟩; rw [hv]
    go_wp2_with fail
    refine (c_spec_l19Throws X h _ _ _ (hr0.below hb1) R (keepc hb1 k0) (keepc hb1 k1)).mono ?_; rintro e w2 ⟨u2, rfl, ho2, hb2⟩
    have B1 := (B0.tr hb1).size
    go_wp2
    go_ret2
    exact ⟨u2, by rw [HC.out]; rfl, by rw [HX.out]; exact ho2.base B1, (B0.tr hb1).tr hb2⟩
end Go.Proofs.YtioemkdapoombaaGreatDoor
end
section
namespace Go.Proofs.YtioemkdapoombaaGreatDoor
open Go.ChangeShapes Go.WideShapes Go.ChangeAt Go.RowKit
set_option linter.unusedVariables false
theorem rep_wk {h : Int} {p : List Int} {m : Int} (hw : Wk h m p m) : ∀ t, Wk h m (repL p t) m
  | 0 => rfl
  | t + 1 => by rw [repL_succ]; exact (rep_wk hw t).append hw
theorem thr_wk {h : Int} {X : List Part2} (R : RoutOk h X) : ∀ k, k ≤ X.length → Wk h (grR X) (thrTo h X k) (seqS h X (k + 1))
  | 0, _ => by
    have h1 := short_wk R.hh (R.sq 0) (R.sq 1)
    rw [seq_zero] at h1
    show Wk h (grR X) (shortL h (seqS h X 0) (seqS h X 1)) (seqS h X 1)
    rw [seq_zero]; exact h1
  | k + 1, hk => by
    have ih := thr_wk R k (by omega)
    have hk' : k < X.length := by omega
    have hp : Wk h (seqS h X (k + 1)) (patR X k) (seqS h X (k + 1)) := by rw [seq_succ hk']; exact wk_pat (R.hv k hk') R.hh (R.hp k hk')
    exact (ih.append (rep_wk hp _)).append (short_wk R.hh (R.sq (k + 1)) (R.sq (k + 2)))
end Go.Proofs.YtioemkdapoombaaGreatDoor
end
section
namespace Go.Proofs.YtioemkdapoombaaGreatDoor
open Go.RowKit
set_option linter.unusedVariables false
theorem wk_runOk {h m m' : Int} {xs : List Int} (hw : Wk h m xs m') : runOk h m xs = true := run_yes (fun i hi => hw.at.1 i hi)
theorem part_leads {R0 : Rc} {L : List ByteArray} {A B C : List Int} {s : ByteArray} (he : R0.e = false) (hC : ∀ x ∈ C, 0 ≤ x ∧ x < 16) (hr : runOk R0.h R0.m ((A ++ B) ++ C) = true) (ih : Leads R0 L (R0.add A))
    (hs : lineF (R0.add A) s = makeF (R0.add A) B) : Leads R0 ((L ++ [s]) ++ thrL C) (R0.add ((A ++ B) ++ C)) := by
  rw [run_app, Bool.and_eq_true] at hr
  obtain ⟨h1, h2⟩ := hr
  have h3 := h1
  rw [run_app, Bool.and_eq_true] at h3
  have hm := make_ok (R := R0.add A) (xs := B) h3.2
  have hl : lineF (R0.add A) s = (0, R0.add (A ++ B)) := by rw [hs, hm, Rc.add_app]
  have hb := thr_leads (R := R0.add (A ++ B)) (xs := C) he hC h2
  rw [Rc.add_app] at hb
  exact (ih.append (Leads.cons hl (Leads.nil _))).append hb
theorem rt_leads {h : Int} {X : List Part2} (R : RoutOk h X) (R0 : Rc) (e1 : R0.h = h) (e2 : R0.m = grR X) (e3 : R0.e = false) (k : Nat) (hk : k ≤ X.length) : Leads R0 (rlTo h X k) (R0.add (thrTo h X k)) := by
  have hrun : ∀ k, k ≤ X.length → runOk R0.h R0.m (thrTo h X k) = true := fun k hk => by rw [e1, e2]; exact wk_runOk (thr_wk R k hk)
  induction k with
  | zero => exact thr_leads (R := R0) (xs := brAt h X 0) e3 (R.hex 0) (hrun 0 hk)
  | succ k ih =>
    have hr := hrun (k + 1) hk
    have e : thrTo h X (k + 1) = (thrTo h X k ++ repL (patR X k) (timR X k).toNat) ++ brAt h X (k + 1) := rfl
    have e' : rlTo h X (k + 1) = (rlTo h X k ++ [rtLine X k]) ++ thrL (brAt h X (k + 1)) := rfl
    rw [e] at hr ⊢
    rw [e']
    refine part_leads e3 (R.hex (k + 1)) hr (ih (by omega)) ?_
    unfold rtLine
    exact line_patW (R := R0.add (thrTo h X k)) e3 (R.hv k (by omega)) (R.ht k (by omega))
theorem rout_whole {h : Int} {X : List Part2} (hv : validR h X = true) : askC (rlL h X) = 0 ∧ thL (rlL h X) = thX h X := by
  have R := rout_ok hv
  have e : rlL h X = doneR h (grR X) (rlTo h X X.length) := by unfold rlL; rw [hv]; rfl
  have hvb : validB h (grR X) = true := validB_iff.2 ⟨R.hh, by have := (mem_maskL.1 R.gr).1; omega⟩
  have hl := R.lines X.length
  have hxl := R.hl
  obtain ⟨h1, h2⟩ := whole_run hvb (rt_leads R (startR h (grR X)) rfl rfl rfl X.length (Nat.le_refl _)) rfl (by omega)
  rw [e]
  refine ⟨h1, ?_⟩
  unfold thL thX
  rw [h1, h2, hv]
  show [] ++ thrTo h X X.length = thrTo h X X.length
  rw [List.nil_append]
end Go.Proofs.YtioemkdapoombaaGreatDoor
end
