/- Contracts of CenterOf. -/
import Derived.Test.YtjjghmmpfnlpaaaTab5
namespace Go.Proofs.Ytjjghmmpfnlpaaa
open Go.ChangeShapes Go.WideShapes Go.ChangeAt Go.RowKit
set_option linter.unusedVariables false
set_option linter.unusedSimpArgs false
def sumR (D : Nat → Nat → Int) (i : Nat) : Nat → Int
  | 0 => 0
  | j + 1 => sumR D i j + D i j
theorem sumR_succ (D : Nat → Nat → Int) (i j : Nat) : sumR D i (j + 1) = sumR D i j + D i j := rfl
theorem sumR_bd {D : Nat → Nat → Int} {n i : Nat} (hD : ∀ i j : Nat, i < n → j < n → 0 ≤ D i j ∧ D i j ≤ 1024) (hi : i < n) : ∀ j, j ≤ n → 0 ≤ sumR D i j ∧ sumR D i j ≤ 1024 * (j : Int)
  | 0, _ => by simp [sumR]
  | j + 1, hj => by
    have h1 := sumR_bd hD hi j (by omega)
    have h2 := hD i j hi (by omega)
    rw [sumR_succ]
    omega
def cStep (c : Int × Int) (i s : Int) : Int × Int := bif decide (c.2 < 0) || decide (s < c.2) then (i, s) else c
def cTo (D : Nat → Nat → Int) (n : Nat) : Nat → Int × Int
  | 0 => (0, -1)
  | i + 1 => cStep (cTo D n i) i (sumR D i n)
theorem cTo_succ (D : Nat → Nat → Int) (n i : Nat) : cTo D n (i + 1) = cStep (cTo D n i) i (sumR D i n) := rfl
theorem cStep_yes {c : Int × Int} {i s : Int} (h : c.2 < 0 ∨ s < c.2) : cStep c i s = (i, s) := by
  unfold cStep
  rcases h with h | h <;> simp [h]
theorem cStep_no {c : Int × Int} {i s : Int} (h1 : ¬ c.2 < 0) (h2 : ¬ s < c.2) : cStep c i s = c := by
  unfold cStep
  simp [h1, h2]
noncomputable def ceI (X : List (List Int)) (h : Int) : Int := if someC X h = 0 then (cTo (tabD X h) X.length X.length).1 else 0
set_option maxHeartbeats 2000000 in
set_option maxRecDepth 100000 in
theorem c_impl_CenterOf (X : List (List Int)) (h : Int) (v : Value) (w : World) (hr : RdG w v X) :
    Calls Try.prog 26 #[v, .int .i64 h] w fun e w' => e = .returned (.tuple #[.int .i64 (ceI X h), .int .i64 (someC X h)]) ∧ Below w.heap.size w w' := by
  have HR := Lib.hid hr
  clear hr
  cases hc : (someC X h != 0)
  · have hc0 : someC X h = 0 := by simpa using hc
    have HX : Hid (ceI X h = (cTo (tabD X h) X.length X.length).1) := by unfold Hid ceI; rw [if_pos hc0]
    obtain ⟨htc, hpos⟩ := some_ok hc0
    have HT := Lib.hid htc
    have HSB := Lib.hid (fun i (hi : i < X.length) => sumR_bd (tabD_bd htc) hi)
    have HDB := Lib.hid (tabD_bd htc)
    have hl8 := (tab_ok htc).2.1
    have HC := Lib.hid hc0
    clear hc0 htc
    go_enter Try.func26, Try.ntmps26
    go_wp2_with fail
    refine (c_impl_someCode X h _ _ HR.out).mono ?_; rintro e w1 ⟨rfl, hb1⟩
    go_wp2_with fail
    refine (c_impl_table X h _ _ (HR.out.below hb1) HT.out).mono ?_; rintro e w2 ⟨u2, rfl, ho2, hb2⟩
    obtain ⟨a2, cap2, rfl, hc2⟩ := tab_rd ho2.rd
    have HC2 := Lib.hid hc2
    have B2 := hb1.tr hb2
    have HSU := Lib.hid (fun i j => sumR_succ (tabD X h) i j)
    have HTS := Lib.hid (fun i => cTo_succ (tabD X h) X.length i)
    clear hc2 ho2
    go_wp2
    go_loopw [7, 8, 24] (fun x z i wr => ∃ k : Nat, k ≤ X.length ∧ i = .int .i64 k ∧ x = .int .i64 (cTo (tabD X h) X.length k).1 ∧ z = .int .i64 (cTo (tabD X h) X.length k).2 ∧ Below w2.heap.size w2 wr) (fun _ _ i _ => X.length - (intOf i).toNat)
    case atStart => exact ⟨0, by omega, rfl, rfl, rfl, Below.refl _ _⟩
    case round =>
      obtain ⟨k, hk, rfl, rfl, rfl, hbr⟩ := hrel
      by_cases hlt : k < X.length
      · obtain ⟨b1, o1, bi, oi, ci, rfl, hx, hrow⟩ := HC2.out k hlt
        have y1 := keepc hbr hx
        have HRO := Lib.hid hrow
        have HBS := Lib.hid (HTS.out k)
        have HSBk := Lib.hid (HSB.out k hlt)
        have HDBk := Lib.hid (fun j hj => HDB.out k j hlt hj)
        have HSUk := Lib.hid (fun j => HSU.out k j)
        have HS0 : Hid (sumR (tabD X h) k 0 = 0) := rfl
        clear hx hrow
        obtain ⟨c0, Hc0⟩ : ∃ c0, Hid (cTo (tabD X h) X.length k = c0) := ⟨_, rfl⟩
        rw [Hc0.out] at HBS
        rw [Hc0.out]
        obtain ⟨wo, rfl⟩ : ∃ wo : World, wo = wr := ⟨_, rfl⟩
        go_wp2
        go_loopw [11, 31] (fun x i wr => ∃ j : Nat, j ≤ X.length ∧ i = .int .i64 j ∧ x = .int .i64 (sumR (tabD X h) k j) ∧ Below wo.heap.size wo wr) (fun _ i _ => X.length - (intOf i).toNat)
        case atStart => exact ⟨0, by omega, rfl, rfl, Below.refl _ _⟩
        case round =>
          obtain ⟨j, hj, rfl, rfl, hb6⟩ := hrel
          have hsb := HSBk.out j hj
          by_cases hjl : j < X.length
          · have z1 := keepc hb6 (keepc hbr (HRO.out j hjl))
            have HRS := Lib.hid (HSUk.out j)
            have hdb := HDBk.out j hjl
            obtain ⟨d, Hd⟩ : ∃ d, Hid (tabD X h k j = d) := ⟨_, rfl⟩
            rw [Hd.out] at z1 HRS hdb
            obtain ⟨s, Hs⟩ : ∃ s, Hid (sumR (tabD X h) k j = s) := ⟨_, rfl⟩
            rw [Hs.out] at HRS hsb
            rw [Hs.out]
            go_wp2
            go_roundw
            case rel => exact ⟨j + 1, by omega, by go_num, by rw [HRS.out], hb6⟩
            case measure => simp [intOf]; omega
          · obtain rfl : j = X.length := by omega
            obtain ⟨s, Hs⟩ : ∃ s, Hid (sumR (tabD X h) k X.length = s) := ⟨_, rfl⟩
            rw [Hs.out] at HBS hsb
            rw [Hs.out]
            by_cases hneg : c0.2 < 0
            · have HRR : Hid (cTo (tabD X h) X.length (k + 1) = ((k : Int), s)) := by unfold Hid; rw [HBS.out, cStep_yes (Or.inl hneg)]
              go_wp2
              go_roundw
              case rel => exact ⟨k + 1, by omega, by go_num, by rw [HRR.out], by rw [HRR.out], hbr.tr hb6⟩
              case measure => simp [intOf]; omega
            · by_cases hsl : s < c0.2
              · have HRR : Hid (cTo (tabD X h) X.length (k + 1) = ((k : Int), s)) := by unfold Hid; rw [HBS.out, cStep_yes (Or.inr hsl)]
                go_wp2
                go_roundw
                case rel => exact ⟨k + 1, by omega, by go_num, by rw [HRR.out], by rw [HRR.out], hbr.tr hb6⟩
                case measure => simp [intOf]; omega
              · have HRR : Hid (cTo (tabD X h) X.length (k + 1) = c0) := by unfold Hid; rw [HBS.out, cStep_no hneg hsl]
                go_wp2
                go_roundw
                case rel => exact ⟨k + 1, by omega, by go_num, by rw [HRR.out], by rw [HRR.out], hbr.tr hb6⟩
                case measure => simp [intOf]; omega
      · obtain rfl : k = X.length := by omega
        go_wp2
        go_ret2
        exact ⟨by rw [HX.out, HC.out]; rfl, B2.tr hbr⟩
  · have hc0 : ¬ someC X h = 0 := by simpa using hc
    have HX : Hid (ceI X h = 0) := by unfold Hid ceI; rw [if_neg hc0]
    clear hc0
    go_enter Try.func26, Try.ntmps26
    go_wp2_with fail
    refine (c_impl_someCode X h _ _ HR.out).mono ?_; rintro e w1 ⟨rfl, hb1⟩
    go_wp2
    go_ret2
    exact ⟨by rw [HX.out]; rfl, hb1⟩
set_option maxHeartbeats 2000000 in
set_option maxRecDepth 100000 in
theorem c_spec_CenterOf (X : List (List Int)) (h : Int) (v : Value) (w : World) (hr : RdG w v X) :
    Calls Try.prog 27 #[v, .int .i64 h] w fun e w' => e = .returned (.tuple #[.int .i64 (ceI X h), .int .i64 (someC X h)]) ∧ Below w.heap.size w w' := by
  have HR := Lib.hid hr
  obtain ⟨a1, cap1, rfl, -, -⟩ := hr
  cases hc : (tabC X h != 0)
  · have hct : tabC X h = 0 := by simpa using hc
    by_cases hlen : X.length = 0
    · have HS : Hid (someC X h = 3) := by unfold Hid someC; rw [if_pos hct, if_pos hlen]
      have HX : Hid (ceI X h = 0) := by unfold Hid ceI; rw [HS.out]; rfl
      have hz : ((X.length : Int) == 0) = true := by simp [hlen]
      clear hct hlen
      go_enter Try.func27, Try.ntmps27
      go_wp2_with fail
      refine (c_spec_l23Code X h _ _ HR.out).mono ?_; rintro e w1 ⟨rfl, hb1⟩
      go_wp2
      go_ret2
      exact ⟨by rw [HX.out, HS.out]; rfl, hb1⟩
    · have HS : Hid (someC X h = 0) := by unfold Hid someC; rw [if_pos hct, if_neg hlen]
      have HX : Hid (ceI X h = (cTo (tabD X h) X.length X.length).1) := by unfold Hid ceI; rw [if_pos HS.out]
      have hz : ((X.length : Int) == 0) = false := by
        have : (X.length : Int) ≠ 0 := by omega
        simpa using this
      have HT := Lib.hid hct
      have HSB := Lib.hid (fun i (hi : i < X.length) => sumR_bd (tabD_bd hct) hi)
      have HDB := Lib.hid (tabD_bd hct)
      have hl8 := (tab_ok hct).2.1
      clear hct hlen
      go_enter Try.func27, Try.ntmps27
      go_wp2_with fail
      refine (c_spec_l23Code X h _ _ HR.out).mono ?_; rintro e w1 ⟨rfl, hb1⟩
      go_wp2_with fail
      refine (c_spec_l23Table X h _ _ (HR.out.below hb1) HT.out).mono ?_; rintro e w2 ⟨u2, rfl, ho2, hb2⟩
      obtain ⟨a2, cap2, rfl, hc2⟩ := tab_rd ho2.rd
      have HC2 := Lib.hid hc2
      have B2 := hb1.tr hb2
      have HSU := Lib.hid (fun i j => sumR_succ (tabD X h) i j)
      have HTS := Lib.hid (fun i => cTo_succ (tabD X h) X.length i)
      clear hc2 ho2
      go_wp2
      go_loopw [8, 9, 10] (fun x z i wr => ∃ k : Nat, k ≤ X.length ∧ i = .int .i64 k ∧ x = .int .i64 (cTo (tabD X h) X.length k).1 ∧ z = .int .i64 (cTo (tabD X h) X.length k).2 ∧ Below w2.heap.size w2 wr) (fun _ _ i _ => X.length - (intOf i).toNat)
      case atStart => exact ⟨0, by omega, rfl, rfl, rfl, Below.refl _ _⟩
      case round =>
        obtain ⟨k, hk, rfl, rfl, rfl, hbr⟩ := hrel
        by_cases hlt : k < X.length
        · obtain ⟨b1, o1, bi, oi, ci, rfl, hx, hrow⟩ := HC2.out k hlt
          have y1' := keepc hbr hx
          have HRO := Lib.hid hrow
          have HBS := Lib.hid (HTS.out k)
          have HSBk := Lib.hid (HSB.out k hlt)
          have HDBk := Lib.hid (fun j hj => HDB.out k j hlt hj)
          have HSUk := Lib.hid (fun j => HSU.out k j)
          clear hx hrow
          obtain ⟨c0, Hc0⟩ : ∃ c0, Hid (cTo (tabD X h) X.length k = c0) := ⟨_, rfl⟩
          rw [Hc0.out] at HBS
          rw [Hc0.out]
          obtain ⟨wo, rfl⟩ : ∃ wo : World, wo = wr := ⟨_, rfl⟩
          go_wp2
          go_loopw [11, 12] (fun x i wr => ∃ j : Nat, j ≤ X.length ∧ i = .int .i64 j ∧ x = .int .i64 (sumR (tabD X h) k j) ∧ Below wo.heap.size wo wr) (fun _ i _ => X.length - (intOf i).toNat)
          case atStart => exact ⟨0, by omega, rfl, rfl, Below.refl _ _⟩
          case round =>
            obtain ⟨j, hj, rfl, rfl, hb6⟩ := hrel
            have hsb := HSBk.out j hj
            by_cases hjl : j < X.length
            · have y1 := keepc hb6 y1'
              have z1 := keepc hb6 (keepc hbr (HRO.out j hjl))
              have HRS := Lib.hid (HSUk.out j)
              have hdb := HDBk.out j hjl
              obtain ⟨d, Hd⟩ : ∃ d, Hid (tabD X h k j = d) := ⟨_, rfl⟩
              rw [Hd.out] at z1 HRS hdb
              obtain ⟨s, Hs⟩ : ∃ s, Hid (sumR (tabD X h) k j = s) := ⟨_, rfl⟩
              rw [Hs.out] at HRS hsb
              rw [Hs.out]
              go_wp2
              go_roundw
              case rel => exact ⟨j + 1, by omega, by go_num, by rw [HRS.out], hb6⟩
              case measure => simp [intOf]; omega
            · obtain rfl : j = X.length := by omega
              obtain ⟨s, Hs⟩ : ∃ s, Hid (sumR (tabD X h) k X.length = s) := ⟨_, rfl⟩
              rw [Hs.out] at HBS hsb
              rw [Hs.out]
              by_cases hneg : c0.2 < 0
              · have HRR : Hid (cTo (tabD X h) X.length (k + 1) = ((k : Int), s)) := by unfold Hid; rw [HBS.out, cStep_yes (Or.inl hneg)]
                go_wp2
                go_roundw
                case rel => exact ⟨k + 1, by omega, by go_num, by rw [HRR.out], by rw [HRR.out], hbr.tr hb6⟩
                case measure => simp [intOf]; omega
              · by_cases hsl : s < c0.2
                · have HRR : Hid (cTo (tabD X h) X.length (k + 1) = ((k : Int), s)) := by unfold Hid; rw [HBS.out, cStep_yes (Or.inr hsl)]
                  go_wp2
                  go_roundw
                  case rel => exact ⟨k + 1, by omega, by go_num, by rw [HRR.out], by rw [HRR.out], hbr.tr hb6⟩
                  case measure => simp [intOf]; omega
                · have HRR : Hid (cTo (tabD X h) X.length (k + 1) = c0) := by unfold Hid; rw [HBS.out, cStep_no hneg hsl]
                  go_wp2
                  go_roundw
                  case rel => exact ⟨k + 1, by omega, by go_num, by rw [HRR.out], by rw [HRR.out], hbr.tr hb6⟩
                  case measure => simp [intOf]; omega
        · obtain rfl : k = X.length := by omega
          go_wp2
          go_ret2
          exact ⟨by rw [HX.out, HS.out]; rfl, B2.tr hbr⟩
  · have hct : ¬ tabC X h = 0 := by simpa using hc
    have HS : Hid (someC X h = tabC X h) := by unfold Hid someC; rw [if_neg hct]
    have HX : Hid (ceI X h = 0) := by unfold Hid ceI; rw [HS.out, if_neg hct]
    clear hct
    go_enter Try.func27, Try.ntmps27
    go_wp2_with fail
    refine (c_spec_l23Code X h _ _ HR.out).mono ?_; rintro e w1 ⟨rfl, hb1⟩
    go_wp2
    go_ret2
    exact ⟨by rw [HX.out, HS.out]; rfl, hb1⟩
end Go.Proofs.Ytjjghmmpfnlpaaa
