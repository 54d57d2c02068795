/- Contracts on tables of patterns: codes. -/
import Derived.Test.YtjokodlappeapaaDoorEntry
import Derived.Test.YtjokodlappeapaaDoorMemR
import Derived.Test.YtjokodlappeapaaDoorArgsG
import Derived.BigQuiet
namespace Go.Proofs.YtjokodlappeapaaDoor
open Go.ChangeShapes Go.WideShapes Go.ChangeAt Go.RowKit
set_option linter.unusedVariables false
set_option linter.unusedSimpArgs false
def fitH (h n : Int) (p : List Int) : Bool := !decide (mxF 0 p > h) && propsP p == n
def tabC (X : List (List Int)) (h : Int) : Int :=
  bif X.all validP then (bif inB h 1 10 then (bif X.all (fitH h (propsP (X.getD 0 []))) then (if X.length > 8 then 5 else 0) else 6) else 2) else 1
theorem all_take {q : List Int → Bool} {X : List (List Int)} {k : Nat} (hk : k < X.length) (h : (X.take k).all q = true) (hx : q (X.getD k []) = true) : (X.take (k + 1)).all q = true := by
  rw [List.take_add_one, List.getElem?_eq_getElem hk]
  have e : X.getD k [] = X[k] := by simp [List.getD, hk]
  rw [e] at hx
  rw [List.all_append, h]
  simp [hx]
theorem allNotT {q : List Int → Bool} {X : List (List Int)} {k : Nat} (hk : k < X.length) (hx : q (X.getD k []) = false) : X.all q = false := by
  have e : X.getD k [] = X[k] := by simp [List.getD, hk]
  rw [e] at hx
  cases h : X.all q
  · rfl
  · rw [List.all_eq_true] at h
    rw [h _ (List.getElem_mem hk)] at hx
    cases hx
theorem all_at {q : List Int → Bool} {X : List (List Int)} (h : X.all q = true) {k : Nat} (hk : k < X.length) : q (X.getD k []) = true := by
  have e : X.getD k [] = X[k] := by simp [List.getD, hk]
  rw [e]
  exact (List.all_eq_true.1 h) _ (List.getElem_mem hk)
theorem tab_one {X : List (List Int)} {h : Int} (hx : X.all validP = false) : tabC X h = 1 := by unfold tabC; rw [hx]; rfl
theorem tab_two {X : List (List Int)} {h : Int} (hx : X.all validP = true) (hh : inB h 1 10 = false) : tabC X h = 2 := by unfold tabC; rw [hx, hh]; rfl
theorem tab_six {X : List (List Int)} {h : Int} (hx : X.all validP = true) (hh : inB h 1 10 = true) (hf : X.all (fitH h (propsP (X.getD 0 []))) = false) : tabC X h = 6 := by unfold tabC; rw [hx, hh, hf]; rfl
theorem tab_end {X : List (List Int)} {h : Int} (hx : X.all validP = true) (hh : inB h 1 10 = true) (hf : X.all (fitH h (propsP (X.getD 0 []))) = true) : tabC X h = if X.length > 8 then 5 else 0 := by unfold tabC; rw [hx, hh, hf]; rfl
/-- what a table without a fault is -/
theorem tab_ok {X : List (List Int)} {h : Int} (hc : tabC X h = 0) : (1 ≤ h ∧ h ≤ 10) ∧ X.length ≤ 8 ∧ ∀ k, k < X.length → validP (X.getD k []) = true ∧ (∀ x ∈ X.getD k [], x ≤ h) ∧ propsP (X.getD k []) = propsP (X.getD 0 []) := by
  unfold tabC at hc
  cases hv : X.all validP
  · rw [hv] at hc; simp at hc
  · cases hh : inB h 1 10
    · rw [hv, hh] at hc; simp at hc
    · cases hf : X.all (fitH h (propsP (X.getD 0 [])))
      · rw [hv, hh, hf] at hc; simp at hc
      · rw [hv, hh, hf] at hc
        have hl : X.length ≤ 8 := by
          by_cases h8 : X.length > 8
          · simp [h8] at hc
          · omega
        refine ⟨inB_iff.1 hh, hl, fun k hk => ?_⟩
        have h1 := all_at hv hk
        have h2 := all_at hf hk
        unfold fitH at h2
        rw [Bool.and_eq_true] at h2
        have h3 : ¬ mxF 0 (X.getD k []) > h := by simpa using h2.1
        refine ⟨h1, fun x hx => ?_, by simpa using h2.2⟩
        have := (mxF_ge 0 (X.getD k [])).2.1 x hx
        omega
theorem tab_br {X : List (List Int)} {h : Int} (hc : tabC X h = 0) {i j : Nat} (hi : i < X.length) (hj : j < X.length) : brC (X.getD i []) (X.getD j []) h = 0 := by
  obtain ⟨hh, _, hk⟩ := tab_ok hc
  obtain ⟨a1, a2, a3⟩ := hk i hi
  obtain ⟨b1, b2, b3⟩ := hk j hj
  have hm : ∀ p : List Int, (∀ x ∈ p, x ≤ h) → ¬ mxF 0 p > h := fun p hp => by
    rcases (mxF_ge 0 p).2.2 with h1 | h1
    · omega
    · have := hp _ h1; omega
  have m1 := hm _ a2
  have m2 := hm _ b2
  generalize X.getD i [] = p at *
  generalize X.getD j [] = q at *
  unfold brC fitB
  rw [a1, b1, inB_iff.2 hh, a3, b3]
  simp [m1, m2]
theorem quiet_p {P : Program} {f : FuncId} {args : Array Value} {w : World} {n : Nat} {v : Value} (h : Calls P f args (w.drewN n) fun e w' => e = .returned v ∧ w.drewN n = w') : Calls P f args (w.drewN n) fun e w'' => e = .returned v ∧ ∃ m, w'' = w.drewN m :=
  Calls.quiet_of_same (h.mono fun _ _ ⟨h1, h2⟩ => ⟨h1, h2.symm⟩)
set_option maxHeartbeats 2000000 in
set_option maxRecDepth 100000 in
theorem c_impl_tableCode (X : List (List Int)) (h : Int) (v : Value) (w : World) (hr : RdG w v X) :
    Calls Tryd.prog 52 #[v, .int .i64 h] w fun e w' => e = .returned (.int .i64 (tabC X h)) ∧ Below w.heap.size w w' := by
  obtain ⟨a1, cap1, rfl, hl1, hc1⟩ := hr
  have HC := Lib.hid hc1
  have H1 := Lib.hid (fun hx => tab_one (X := X) (h := h) hx)
  have H2 := Lib.hid (fun hx hh => tab_two (X := X) (h := h) hx hh)
  have H6 := Lib.hid (fun hx hh hf => tab_six (X := X) (h := h) hx hh hf)
  have H0 := Lib.hid (fun hx hh hf => tab_end (X := X) (h := h) hx hh hf)
  clear hc1
  go_enter Tryd.func52, Tryd.ntmps52
  go_wp2
  go_loopw [11] (fun i wr => ∃ k : Nat, k ≤ X.length ∧ i = .int .i64 k ∧ Hid ((X.take k).all validP = true) ∧ Below w.heap.size w wr) (fun i _ => X.length - (intOf i).toNat)
  case atStart => exact ⟨0, by omega, rfl, by unfold Hid; simp, Below.refl _ _⟩
  case round =>
    obtain ⟨k, hk, rfl, HV, hb⟩ := hrel
    by_cases hlt : k < X.length
    · obtain ⟨b1, o1, u, rfl, hx, hu⟩ := HC.out k hlt
      have hx' := keepc hb hx
      have huu := Lib.hid (hu.below hb)
      clear hx hu
      cases hv : validP (X.getD k [])
      · have HT := Lib.hid (H1.out (allNotT hlt hv))
        go_wp2_with fail
        refine (c_impl_ValidPattern _ _ _ huu.out).mono ?_; rintro e w1 ⟨rfl, hb1⟩
        rw [hv]
        go_wp2
        go_ret
        exact ⟨by rw [HT.out]; rfl, hb.tr hb1⟩
      · have HT := Lib.hid (all_take hlt HV.out hv)
        go_wp2_with fail
        refine (c_impl_ValidPattern _ _ _ huu.out).mono ?_; rintro e w1 ⟨rfl, hb1⟩
        rw [hv]
        go_wp2
        go_roundw
        case rel => exact ⟨k + 1, by omega, by go_num, HT, hb.tr hb1⟩
        case measure => simp [intOf]; omega
    · have HVA : Hid (X.all validP = true) := by
        have := HV.out
        rw [List.take_of_length_le (by omega)] at this
        exact this
      clear HV
      cases hh : inB h 1 10
      · have HT := Lib.hid (H2.out HVA.out hh)
        go_wp2_with fail
        refine (c_impl_isHeight h _).mono ?_; rintro e w1 ⟨rfl, rfl⟩; rw [hh]
        go_wp2
        go_ret
        exact ⟨by rw [HT.out]; rfl, hb⟩
      · have HHH := Lib.hid hh
        go_wp2_with fail
        refine (c_impl_isHeight h _).mono ?_; rintro e w1 ⟨rfl, rfl⟩; rw [hh]
        clear hh
        go_wp2
        go_loopw [24] (fun i wr => ∃ k : Nat, k ≤ X.length ∧ i = .int .i64 k ∧ Hid ((X.take k).all (fitH h (propsP (X.getD 0 []))) = true) ∧ Below w.heap.size w wr) (fun i _ => X.length - (intOf i).toNat)
        case atStart => exact ⟨0, by omega, rfl, by unfold Hid; simp, hb⟩
        case round =>
          clear hb
          obtain ⟨k, hk, rfl, HF, hb⟩ := hrel
          by_cases hlt : k < X.length
          · obtain ⟨b1, o1, u, rfl, hx, hu⟩ := HC.out k hlt
            obtain ⟨b2, o2, u2, he2, hx2, hu2⟩ := HC.out 0 (by omega)
            cases he2
            have hx' := keepc hb hx
            have hx0' := keepc hb hx2
            rw [Nat.add_zero] at hx0'
            have huw := Lib.hid (hu.below hb)
            have huw0 := Lib.hid (hu2.below hb)
            have HVK := Lib.hid (all_at HVA.out hlt)
            have HV0 := Lib.hid (all_at HVA.out (show 0 < X.length by omega))
            have HFN := Lib.hid (fun hq => H6.out HVA.out HHH.out (allNotT (q := fitH h (propsP (X.getD 0 []))) hlt hq))
            have HFY := Lib.hid (fun hq => all_take (q := fitH h (propsP (X.getD 0 []))) hlt HF.out hq)
            have HFD : Hid (∀ n p, fitH h n p = (!decide (mxF 0 p > h) && propsP p == n)) := fun _ _ => rfl
            have hpos : (0 : Int) < (X.length : Int) := by omega
            clear hx hu hx2 hu2
            obtain ⟨p, Hp⟩ : ∃ p, Hid (X.getD k [] = p) := ⟨_, rfl⟩
            obtain ⟨q, Hq⟩ : ∃ q, Hid (X.getD 0 [] = q) := ⟨_, rfl⟩
            rw [Hp.out] at huw HVK HFN HFY
            rw [Hq.out] at huw0 HV0 HFN HFY
            have HWN : Hid (∀ n, RdI (wr.drewN n) u p) := fun n => huw.out
            have HWN0 : Hid (∀ n, RdI (wr.drewN n) u2 q) := fun n => huw0.out
            by_cases hhi : mxF 0 p > h
            · have HR := Lib.hid (HFN.out (by rw [HFD.out]; simp [hhi]))
              have hd1 : decide (mxF 0 p > h) = true := by simp [hhi]
              have hd2 : decide (h < mxF 0 p) = true := by simpa using hhi
              go_wp2_with fail
              go_quiet (first
                | (go_at_call 85; exact quiet_p (c_impl_highest p _ _ (by exact huw.out))))
              go_wp2
              go_ret
              exact ⟨by rw [HR.out]; rfl, by (repeat (first | (with_reducible assumption) | (with_reducible exact Below.refl _ _) | (with_reducible refine Below.setCell ?_ (by first | (simp; done) | (simp; omega)) _) | (with_reducible refine Below.al ?_ _) | (with_reducible refine Below.dr ?_) | (with_reducible refine Below.drN ?_ _) | (with_reducible refine Below.tr ?_ (by with_reducible assumption))))⟩
            · have hd1 : decide (mxF 0 p > h) = false := by simp [hhi]
              have hd2 : decide (h < mxF 0 p) = false := by simpa using hhi
              cases hpq : (propsP p != propsP q)
              · have hq1 : fitH h (propsP q) p = true := by
                  have : (propsP p == propsP q) = true := by simpa using hpq
                  rw [HFD.out, this, hd1]; rfl
                have HR := Lib.hid (HFY.out hq1)
                go_wp2_with fail
                go_quiet (first
                  | (go_at_call 85; exact quiet_p (c_impl_highest p _ _ (by exact huw.out)))
                  | (go_at_call 86; first | with_reducible exact quiet_p (c_impl_propsOf p u _ (HWN.out _) HVK.out) | with_reducible exact quiet_p (c_impl_propsOf q u2 _ (HWN0.out _) HV0.out)))
                go_wp2
                go_roundw
                case rel => exact ⟨k + 1, by omega, by go_num, by rw [Hq.out]; exact HR, by (repeat (first | (with_reducible assumption) | (with_reducible exact Below.refl _ _) | (with_reducible refine Below.setCell ?_ (by first | (simp; done) | (simp; omega)) _) | (with_reducible refine Below.al ?_ _) | (with_reducible refine Below.dr ?_) | (with_reducible refine Below.drN ?_ _) | (with_reducible refine Below.tr ?_ (by with_reducible assumption))))⟩
                case measure => simp [intOf]; omega
              · have hq1 : fitH h (propsP q) p = false := by
                  have : (propsP p == propsP q) = false := by simpa using hpq
                  rw [HFD.out, this, hd1]; rfl
                have HR := Lib.hid (HFN.out hq1)
                go_wp2_with fail
                go_quiet (first
                  | (go_at_call 85; exact quiet_p (c_impl_highest p _ _ (by exact huw.out)))
                  | (go_at_call 86; first | with_reducible exact quiet_p (c_impl_propsOf p u _ (HWN.out _) HVK.out) | with_reducible exact quiet_p (c_impl_propsOf q u2 _ (HWN0.out _) HV0.out)))
                go_wp2
                go_ret
                exact ⟨by rw [HR.out]; rfl, by (repeat (first | (with_reducible assumption) | (with_reducible exact Below.refl _ _) | (with_reducible refine Below.setCell ?_ (by first | (simp; done) | (simp; omega)) _) | (with_reducible refine Below.al ?_ _) | (with_reducible refine Below.dr ?_) | (with_reducible refine Below.drN ?_ _) | (with_reducible refine Below.tr ?_ (by with_reducible assumption))))⟩
          · have HFA : Hid (X.all (fitH h (propsP (X.getD 0 []))) = true) := by
              have := HF.out
              rw [List.take_of_length_le (by omega)] at this
              exact this
            have HT := Lib.hid (H0.out HVA.out HHH.out HFA.out)
            by_cases h8 : X.length > 8
            · have h8i : (X.length : Int) > 8 := by omega
              rw [if_pos h8] at HT
              go_wp2
              go_ret
              exact ⟨by rw [HT.out]; rfl, hb⟩
            · have h8i : ¬ (X.length : Int) > 8 := by omega
              rw [if_neg h8] at HT
              go_wp2
              go_ret
              exact ⟨by rw [HT.out]; rfl, hb⟩
set_option maxHeartbeats 2000000 in
set_option maxRecDepth 100000 in
theorem c_spec_l23Code (X : List (List Int)) (h : Int) (v : Value) (w : World) (hr : RdG w v X) :
    Calls Tryd.prog 54 #[v, .int .i64 h] w fun e w' => e = .returned (.int .i64 (tabC X h)) ∧ Below w.heap.size w w' := by
  obtain ⟨a1, cap1, rfl, hl1, hc1⟩ := hr
  have HC := Lib.hid hc1
  have H1 := Lib.hid (fun hx => tab_one (X := X) (h := h) hx)
  have H2 := Lib.hid (fun hx hh => tab_two (X := X) (h := h) hx hh)
  have H6 := Lib.hid (fun hx hh hf => tab_six (X := X) (h := h) hx hh hf)
  have H0 := Lib.hid (fun hx hh hf => tab_end (X := X) (h := h) hx hh hf)
  clear hc1
  go_enter Tryd.func54, Tryd.ntmps54
  go_wp2
  go_loopw [5] (fun i wr => ∃ k : Nat, k ≤ X.length ∧ i = .int .i64 k ∧ Hid ((X.take k).all validP = true) ∧ Below w.heap.size w wr) (fun i _ => X.length - (intOf i).toNat)
  case atStart => exact ⟨0, by omega, rfl, by unfold Hid; simp, Below.refl _ _⟩
  case round =>
    obtain ⟨k, hk, rfl, HV, hb⟩ := hrel
    by_cases hlt : k < X.length
    · obtain ⟨b1, o1, u, rfl, hx, hu⟩ := HC.out k hlt
      have hx' := keepc hb hx
      have huu := Lib.hid (hu.below hb)
      clear hx hu
      cases hv : validP (X.getD k [])
      · have HT := Lib.hid (H1.out (allNotT hlt hv))
        go_wp2_with fail
        refine (c_spec_l02Ok _ _ _ huu.out).mono ?_; rintro e w1 ⟨rfl, hb1⟩
        rw [hv]
        go_wp2
        go_ret
        exact ⟨by rw [HT.out]; rfl, hb.tr hb1⟩
      · have HT := Lib.hid (all_take hlt HV.out hv)
        go_wp2_with fail
        refine (c_spec_l02Ok _ _ _ huu.out).mono ?_; rintro e w1 ⟨rfl, hb1⟩
        rw [hv]
        go_wp2
        go_roundw
        case rel => exact ⟨k + 1, by omega, by go_num, HT, hb.tr hb1⟩
        case measure => simp [intOf]; omega
    · have HVA : Hid (X.all validP = true) := by
        have := HV.out
        rw [List.take_of_length_le (by omega)] at this
        exact this
      clear HV
      cases hh : inB h 1 10
      · have HT := Lib.hid (H2.out HVA.out hh)
        go_wp2_with fail
        refine (c_spec_l08Height h _).mono ?_; rintro e w1 ⟨rfl, rfl⟩; rw [hh]
        go_wp2
        go_ret
        exact ⟨by rw [HT.out]; rfl, hb⟩
      · have HHH := Lib.hid hh
        go_wp2_with fail
        refine (c_spec_l08Height h _).mono ?_; rintro e w1 ⟨rfl, rfl⟩; rw [hh]
        clear hh
        go_wp2
        go_loopw [6] (fun i wr => ∃ k : Nat, k ≤ X.length ∧ i = .int .i64 k ∧ Hid ((X.take k).all (fitH h (propsP (X.getD 0 []))) = true) ∧ Below w.heap.size w wr) (fun i _ => X.length - (intOf i).toNat)
        case atStart => exact ⟨0, by omega, rfl, by unfold Hid; simp, hb⟩
        case round =>
          clear hb
          obtain ⟨k, hk, rfl, HF, hb⟩ := hrel
          by_cases hlt : k < X.length
          · obtain ⟨b1, o1, u, rfl, hx, hu⟩ := HC.out k hlt
            obtain ⟨b2, o2, u2, he2, hx2, hu2⟩ := HC.out 0 (by omega)
            cases he2
            have hx' := keepc hb hx
            have hx0' := keepc hb hx2
            rw [Nat.add_zero] at hx0'
            have huw := Lib.hid (hu.below hb)
            have huw0 := Lib.hid (hu2.below hb)
            have HVK := Lib.hid (all_at HVA.out hlt)
            have HV0 := Lib.hid (all_at HVA.out (show 0 < X.length by omega))
            have HFN := Lib.hid (fun hq => H6.out HVA.out HHH.out (allNotT (q := fitH h (propsP (X.getD 0 []))) hlt hq))
            have HFY := Lib.hid (fun hq => all_take (q := fitH h (propsP (X.getD 0 []))) hlt HF.out hq)
            have HFD : Hid (∀ n p, fitH h n p = (!decide (mxF 0 p > h) && propsP p == n)) := fun _ _ => rfl
            have hpos : (0 : Int) < (X.length : Int) := by omega
            clear hx hu hx2 hu2
            obtain ⟨p, Hp⟩ : ∃ p, Hid (X.getD k [] = p) := ⟨_, rfl⟩
            obtain ⟨q, Hq⟩ : ∃ q, Hid (X.getD 0 [] = q) := ⟨_, rfl⟩
            rw [Hp.out] at huw HVK HFN HFY
            rw [Hq.out] at huw0 HV0 HFN HFY
            have HWN : Hid (∀ n, RdI (wr.drewN n) u p) := fun n => huw.out
            have HWN0 : Hid (∀ n, RdI (wr.drewN n) u2 q) := fun n => huw0.out
            by_cases hhi : mxF 0 p > h
            · have HR := Lib.hid (HFN.out (by rw [HFD.out]; simp [hhi]))
              have hd1 : decide (mxF 0 p > h) = true := by simp [hhi]
              have hd2 : decide (h < mxF 0 p) = true := by simpa using hhi
              go_wp2_with fail
              go_quiet (first
                | (go_at_call 91; exact quiet_p (c_spec_l02High p _ _ (by exact huw.out))))
              go_wp2
              go_ret
              exact ⟨by rw [HR.out]; rfl, by (repeat (first | (with_reducible assumption) | (with_reducible exact Below.refl _ _) | (with_reducible refine Below.setCell ?_ (by first | (simp; done) | (simp; omega)) _) | (with_reducible refine Below.al ?_ _) | (with_reducible refine Below.dr ?_) | (with_reducible refine Below.drN ?_ _) | (with_reducible refine Below.tr ?_ (by with_reducible assumption))))⟩
            · have hd1 : decide (mxF 0 p > h) = false := by simp [hhi]
              have hd2 : decide (h < mxF 0 p) = false := by simpa using hhi
              cases hpq : (propsP p != propsP q)
              · have hq1 : fitH h (propsP q) p = true := by
                  have : (propsP p == propsP q) = true := by simpa using hpq
                  rw [HFD.out, this, hd1]; rfl
                have HR := Lib.hid (HFY.out hq1)
                go_wp2_with fail
                go_quiet (first
                  | (go_at_call 91; exact quiet_p (c_spec_l02High p _ _ (by exact huw.out)))
                  | (go_at_call 92; first | with_reducible exact quiet_p (c_spec_l02Props p u _ (HWN.out _) HVK.out) | with_reducible exact quiet_p (c_spec_l02Props q u2 _ (HWN0.out _) HV0.out)))
                go_wp2
                go_roundw
                case rel => exact ⟨k + 1, by omega, by go_num, by rw [Hq.out]; exact HR, by (repeat (first | (with_reducible assumption) | (with_reducible exact Below.refl _ _) | (with_reducible refine Below.setCell ?_ (by first | (simp; done) | (simp; omega)) _) | (with_reducible refine Below.al ?_ _) | (with_reducible refine Below.dr ?_) | (with_reducible refine Below.drN ?_ _) | (with_reducible refine Below.tr ?_ (by with_reducible assumption))))⟩
                case measure => simp [intOf]; omega
              · have hq1 : fitH h (propsP q) p = false := by
                  have : (propsP p == propsP q) = false := by simpa using hpq
                  rw [HFD.out, this, hd1]; rfl
                have HR := Lib.hid (HFN.out hq1)
                go_wp2_with fail
                go_quiet (first
                  | (go_at_call 91; exact quiet_p (c_spec_l02High p _ _ (by exact huw.out)))
                  | (go_at_call 92; first | with_reducible exact quiet_p (c_spec_l02Props p u _ (HWN.out _) HVK.out) | with_reducible exact quiet_p (c_spec_l02Props q u2 _ (HWN0.out _) HV0.out)))
                go_wp2
                go_ret
                exact ⟨by rw [HR.out]; rfl, by (repeat (first | (with_reducible assumption) | (with_reducible exact Below.refl _ _) | (with_reducible refine Below.setCell ?_ (by first | (simp; done) | (simp; omega)) _) | (with_reducible refine Below.al ?_ _) | (with_reducible refine Below.dr ?_) | (with_reducible refine Below.drN ?_ _) | (with_reducible refine Below.tr ?_ (by with_reducible assumption))))⟩
          · have HFA : Hid (X.all (fitH h (propsP (X.getD 0 []))) = true) := by
              have := HF.out
              rw [List.take_of_length_le (by omega)] at this
              exact this
            have HT := Lib.hid (H0.out HVA.out HHH.out HFA.out)
            by_cases h8 : X.length > 8
            · have h8i : (X.length : Int) > 8 := by omega
              rw [if_pos h8] at HT
              go_wp2
              go_ret
              exact ⟨by rw [HT.out]; rfl, hb⟩
            · have h8i : ¬ (X.length : Int) > 8 := by omega
              rw [if_neg h8] at HT
              go_wp2
              go_ret
              exact ⟨by rw [HT.out]; rfl, hb⟩
end Go.Proofs.YtjokodlappeapaaDoor
