/- Contracts of ShortestThrows, the program's and the reference's. -/
import Derived.Test.YtggffkklfdpmkaaShortS
import Derived.Test.YtggffkklfdpmkaaDist2
namespace Go.Proofs.Ytggffkklfdpmkaa
open Go.ChangeShapes Go.WideShapes Go.ChangeAt Go.RowKit
set_option linter.unusedVariables false
set_option linter.unusedSimpArgs false
noncomputable def shortX (h m h2 m2 : Int) : List Int := bif linkC h m h2 m2 == 0 then shortL h m m2 else []
theorem shortX_len (h m h2 m2 : Int) : (shortX h m h2 m2).length ≤ 1000000 := by
  unfold shortX
  cases hc : (linkC h m h2 m2 == 0)
  · simp
  · have hc0 : linkC h m h2 m2 = 0 := by simpa using hc
    obtain ⟨hv, hv2, hh, hp⟩ := linkC_ok hc0
    subst hh
    have h1 : m ∈ maskL (popI m) h := mem_maskL.2 ⟨(valid_iff hv).2, rfl⟩
    have h2 : m2 ∈ maskL (popI m) h := mem_maskL.2 ⟨(valid_iff hv2).2, hp.symm⟩
    have h3 := farM_bd (valid_iff hv).1 h1 h2
    have h4 := maskL_len (popI m) h (valid_iff hv).1
    rw [cond_true, shortL_len]
    omega
set_option maxHeartbeats 1000000 in
set_option maxRecDepth 100000 in
theorem c_spec_ShortestThrows (h m h2 m2 : Int) (w : World) :
    Calls Try.prog 47 #[.agg #[.int .i64 h, .int .i64 m], .agg #[.int .i64 h2, .int .i64 m2]] w fun e w' => ∃ v, e = .returned (.tuple #[v, .int .i64 (linkC h m h2 m2)]) ∧ OwnI1 w.heap.size w' v (shortX h m h2 m2) ∧ Below w.heap.size w w' := by
  obtain ⟨W0, hW0, k0, k1, k2, k3, B0⟩ := twoStates w 36 h m h2 m2
  cases hc : (linkC h m h2 m2 != 0)
  · have hc0 : linkC h m h2 m2 = 0 := by simpa using hc
    have hdv : Hid (shortX h m h2 m2 = shortL h m m2) := by unfold Hid shortX; rw [hc0]; rfl
    have HC := Lib.hid hc0
    obtain ⟨hv, hv2, hh, hp⟩ := linkC_ok hc0
    subst hh
    have HM1 : Hid (m ∈ maskL (popI m) h) := mem_maskL.2 ⟨(valid_iff hv).2, rfl⟩
    have HM2 : Hid (m2 ∈ maskL (popI m) h) := mem_maskL.2 ⟨(valid_iff hv2).2, hp.symm⟩
    have hh1 : 1 ≤ h ∧ h ≤ 10 := (valid_iff hv).1
    clear hp hc0 hv hv2
    go_enter Try.func47, Try.ntmps47
    go_wp2_with fail
    rw [← hW0]
    refine (c_spec_l09Two _ _ _ _ _).mono ?_; rintro e w1 ⟨rfl, hb1⟩
    have k0 := keepc hb1 k0
    have k1 := keepc hb1 k1
    have k2 := keepc hb1 k2
    have k3 := keepc hb1 k3
    have B1 : Below w.heap.size w w1 := B0.tr hb1
    go_wp2_with fail
    refine (c_spec_l10Short (popI m) h m m2 _ hh1 HM1.out HM2.out).mono ?_; rintro e w2 ⟨vl, rfl, hl2, hb2⟩
    go_wp2
    go_ret2
    exact ⟨_, by rw [HC.out]; rfl, by rw [hdv.out]; exact hl2.base (by have := B1.size; omega), B1.tr hb2⟩
  · have hdv : Hid (shortX h m h2 m2 = []) := by
      have : (linkC h m h2 m2 == 0) = false := by simpa using hc
      unfold Hid shortX; rw [this]; rfl
    go_enter Try.func47, Try.ntmps47
    go_wp2_with fail
    rw [← hW0]
    refine (c_spec_l09Two _ _ _ _ _).mono ?_; rintro e w1 ⟨rfl, hb1⟩
    go_wp2
    go_ret2
    exact ⟨_, rfl, by rw [hdv.out]; exact OwnI.nil _ rfl, by (repeat (first | (with_reducible assumption) | (with_reducible exact Below.refl _ _) | (with_reducible refine Below.setCell ?_ (by first | (simp; done) | (simp; omega)) _) | (with_reducible refine Below.al ?_ _) | (with_reducible refine Below.dr ?_) | (with_reducible refine Below.drN ?_ _) | (with_reducible refine Below.tr ?_ (by with_reducible assumption))))⟩
set_option maxHeartbeats 1000000 in
set_option maxRecDepth 100000 in
theorem c_impl_ShortestThrows (h m h2 m2 : Int) (w : World) :
    Calls Try.prog 48 #[.agg #[.int .i64 h, .int .i64 m], .agg #[.int .i64 h2, .int .i64 m2]] w fun e w' => ∃ v, e = .returned (.tuple #[v, .int .i64 (linkC h m h2 m2)]) ∧ OwnI1 w.heap.size w' v (shortX h m h2 m2) ∧ Below w.heap.size w w' := by
  obtain ⟨W0, hW0, k0, k1, k2, k3, B0⟩ := twoStates w 36 h m h2 m2
  cases hc : (linkC h m h2 m2 != 0)
  · have hc0 : linkC h m h2 m2 = 0 := by simpa using hc
    have hdv : Hid (shortX h m h2 m2 = shortL h m m2) := by unfold Hid shortX; rw [hc0]; rfl
    have HC := Lib.hid hc0
    obtain ⟨hv, hv2, hh, hp⟩ := linkC_ok hc0
    subst hh
    have HM1 : Hid (m ∈ maskL (popI m) h) := mem_maskL.2 ⟨(valid_iff hv).2, rfl⟩
    have HM2 : Hid (m2 ∈ maskL (popI m) h) := mem_maskL.2 ⟨(valid_iff hv2).2, hp.symm⟩
    have hh1 : 1 ≤ h ∧ h ≤ 10 := (valid_iff hv).1
    clear hp hc0 hv hv2
    go_enter Try.func48, Try.ntmps48
    go_wp2_with fail
    rw [← hW0]
    refine (c_impl_linked _ _ _ _ _).mono ?_; rintro e w1 ⟨rfl, hb1⟩
    have k0 := keepc hb1 k0
    have k1 := keepc hb1 k1
    have k2 := keepc hb1 k2
    have k3 := keepc hb1 k3
    have B1 : Below w.heap.size w w1 := B0.tr hb1
    go_wp2_with fail
    refine (c_impl_shortest (popI m) h m m2 _ hh1 HM1.out HM2.out).mono ?_; rintro e w2 ⟨vl, rfl, hl2, hb2⟩
    go_wp2
    go_ret2
    exact ⟨_, by rw [HC.out]; rfl, by rw [hdv.out]; exact hl2.base (by have := B1.size; omega), B1.tr hb2⟩
  · have hdv : Hid (shortX h m h2 m2 = []) := by
      have : (linkC h m h2 m2 == 0) = false := by simpa using hc
      unfold Hid shortX; rw [this]; rfl
    go_enter Try.func48, Try.ntmps48
    go_wp2_with fail
    rw [← hW0]
    refine (c_impl_linked _ _ _ _ _).mono ?_; rintro e w1 ⟨rfl, hb1⟩
    go_wp2
    go_ret2
    exact ⟨_, rfl, by rw [hdv.out]; exact OwnI.nil _ rfl, by (repeat (first | (with_reducible assumption) | (with_reducible exact Below.refl _ _) | (with_reducible refine Below.setCell ?_ (by first | (simp; done) | (simp; omega)) _) | (with_reducible refine Below.al ?_ _) | (with_reducible refine Below.dr ?_) | (with_reducible refine Below.drN ?_ _) | (with_reducible refine Below.tr ?_ (by with_reducible assumption))))⟩
end Go.Proofs.Ytggffkklfdpmkaa
