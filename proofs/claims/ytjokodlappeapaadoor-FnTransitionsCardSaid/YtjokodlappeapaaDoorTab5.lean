/- Contracts of FarthestPair and CenterOf. -/
import Derived.Test.YtjokodlappeapaaDoorTab4
import Derived.Deep.QuietTactic
namespace Go.Proofs.YtjokodlappeapaaDoor
open Go.ChangeShapes Go.WideShapes Go.ChangeAt Go.RowKit
set_option linter.unusedVariables false
set_option linter.unusedSimpArgs false
noncomputable def tabD (X : List (List Int)) (h : Int) (i j : Nat) : Int := farM h ((fstL X h).getD i 0) ((fstL X h).getD j 0)
/-- how a square table of numbers reads -/
def RdTab (n : Nat) (D : Nat → Nat → Int) (w : World) (v : Value) : Prop :=
  ∃ a cap, v = .slice a n cap ∧ ∀ i, i < n → ∃ b off bi oi ci, a = some ⟨b, off, none⟩ ∧ w.cell? ⟨b, off + i, none⟩ = some (.slice (some ⟨bi, oi, none⟩) n ci) ∧ ∀ j, j < n → w.cell? ⟨bi, oi + j, none⟩ = some (.int .i64 (D i j))
theorem RdTab.below {n : Nat} {D : Nat → Nat → Int} {a b : World} {v : Value} (h : RdTab n D a v) (hb : Below a.heap.size a b) : RdTab n D b v := by
  obtain ⟨ad, cap, hv, hc⟩ := h
  refine ⟨ad, cap, hv, fun i hi => ?_⟩
  obtain ⟨bl, off, bi, oi, ci, ha, h1, h2⟩ := hc i hi
  exact ⟨bl, off, bi, oi, ci, ha, keepc hb h1, fun j hj => keepc hb (h2 j hj)⟩
theorem amongTo_at {h : Int} {S : List Int} {k i : Nat} (hi : i < k) : (amongTo h S k).getD i [] = rowTo h S i S.length := by
  simp [amongTo, List.getD, hi]
theorem rowTo_full (h : Int) (S : List Int) (i : Nat) : rowTo h S i S.length = S.map fun t => farM h (S.getD i 0) t := by
  unfold rowTo; rw [List.take_length]
theorem tab_rd {X : List (List Int)} {h : Int} {w : World} {v : Value} (hr : RdG w v (tabL X h)) : RdTab X.length (tabD X h) w v := by
  obtain ⟨a, cap, hv, _, hc⟩ := hr
  have hlen : (tabL X h).length = X.length := by unfold tabL amongL; rw [amongTo_len, fstL_len]
  rw [hlen] at hv hc
  refine ⟨a, cap, hv, fun i hi => ?_⟩
  obtain ⟨b, off, u, ha, hu, ar, car, hru, _, hrc⟩ := hc i hi
  have hrow : (tabL X h).getD i [] = (fstL X h).map fun t => farM h ((fstL X h).getD i 0) t := by
    unfold tabL amongL
    rw [amongTo_at (by rw [fstL_len]; exact hi), rowTo_full]
  rw [hrow] at hru hrc
  rw [List.length_map, fstL_len] at hru hrc
  obtain ⟨bi, oi, har, _⟩ := hrc i hi
  subst har
  refine ⟨b, off, bi, oi, car, ha, by rw [hu, hru], fun j hj => ?_⟩
  obtain ⟨bj, oj, he, hcj⟩ := hrc j hj
  cases he
  rw [hcj]
  have hj' : j < (fstL X h).length := by rw [fstL_len]; exact hj
  simp [tabD, List.getD, hj']
/- the farthest pair -/
def mStep (c : C3) (i k d : Int) : C3 := bif decide (c.2.2 < d) then (i, k, d) else c
def mRow (D : Nat → Nat → Int) (i : Nat) (c : C3) : Nat → C3
  | 0 => c
  | j + 1 => mStep (mRow D i c j) i j (D i j)
def mTo (D : Nat → Nat → Int) (m : Nat) : Nat → C3
  | 0 => (0, 0, -1)
  | i + 1 => mRow D i (mTo D m i) m
theorem mRow_succ (D : Nat → Nat → Int) (i j : Nat) (c : C3) : mRow D i c (j + 1) = mStep (mRow D i c j) i j (D i j) := rfl
theorem mTo_succ (D : Nat → Nat → Int) (m i : Nat) : mTo D m (i + 1) = mRow D i (mTo D m i) m := rfl
theorem mStep_yes {c : C3} {i k d : Int} (h : c.2.2 < d) : mStep c i k d = (i, k, d) := by unfold mStep; simp [h]
theorem mStep_no {c : C3} {i k d : Int} (h : ¬ c.2.2 < d) : mStep c i k d = c := by unfold mStep; simp [h]
/-- what the two numbers of a state say of the third -/
def mInv (D : Nat → Nat → Int) (n : Nat) (s : Bool) (c : C3) (a b : Nat) : Prop :=
  a < n ∧ b < n ∧ c.1 = a ∧ c.2.1 = b ∧ (c.2.2 = D a b ∨ (s = true ∧ c.2.2 = -1 ∧ a = 0 ∧ b = 0))
theorem mInv_yes {D : Nat → Nat → Int} {n : Nat} {s : Bool} {c : C3} {a b i k : Nat} (hi : mInv D n s c a b) (hn : i < n) (hk : k < n) (hs : s = true → i = 0 ∧ k = 0) (h : D i k > D a b) : mInv D n false (mStep c i k (D i k)) i k := by
  obtain ⟨h1, h2, h3, h4, h5⟩ := hi
  rcases h5 with h5 | ⟨h5, h6, h7, h8⟩
  · rw [mStep_yes (by omega)]; exact ⟨hn, hk, rfl, rfl, Or.inl rfl⟩
  · obtain ⟨rfl, rfl⟩ := hs h5
    subst h7 h8
    omega
theorem mInv_no {D : Nat → Nat → Int} {n : Nat} {s : Bool} {c : C3} {a b i k : Nat} (hi : mInv D n s c a b) (hn : i < n) (hk : k < n) (hs : s = true → i = 0 ∧ k = 0) (hD : 0 ≤ D i k) (h : ¬ D i k > D a b) : mInv D n false (mStep c i k (D i k)) a b := by
  obtain ⟨h1, h2, h3, h4, h5⟩ := hi
  rcases h5 with h5 | ⟨h5, h6, h7, h8⟩
  · rw [mStep_no (by omega)]; exact ⟨h1, h2, h3, h4, Or.inl h5⟩
  · obtain ⟨rfl, rfl⟩ := hs h5
    subst h7 h8
    rw [mStep_yes (by omega)]; exact ⟨h1, h2, rfl, rfl, Or.inl rfl⟩
noncomputable def fpA (X : List (List Int)) (h : Int) : Int := if someC X h = 0 then (mTo (tabD X h) X.length X.length).1 else 0
noncomputable def fpB (X : List (List Int)) (h : Int) : Int := if someC X h = 0 then (mTo (tabD X h) X.length X.length).2.1 else 0
theorem some_ok {X : List (List Int)} {h : Int} (hs : someC X h = 0) : tabC X h = 0 ∧ 0 < X.length := by
  unfold someC at hs
  by_cases hc : tabC X h = 0
  · rw [if_pos hc] at hs
    by_cases h0 : X.length = 0
    · rw [if_pos h0] at hs; omega
    · exact ⟨hc, by omega⟩
  · rw [if_neg hc] at hs; exact absurd hs hc
theorem tabD_bd {X : List (List Int)} {h : Int} (hc : tabC X h = 0) : ∀ i j : Nat, i < X.length → j < X.length → 0 ≤ tabD X h i j ∧ tabD X h i j ≤ 1024 := tab_far hc
set_option maxHeartbeats 2000000 in
set_option maxRecDepth 100000 in
theorem c_impl_FarthestPair (X : List (List Int)) (h : Int) (v : Value) (w : World) (hr : RdG w v X) :
    Calls Tryd.prog 36 #[v, .int .i64 h] w fun e w' => e = .returned (.tuple #[.int .i64 (fpA X h), .int .i64 (fpB X h), .int .i64 (someC X h)]) ∧ Below w.heap.size w w' := by
  have HR := Lib.hid hr
  clear hr
  cases hc : (someC X h != 0)
  · have hc0 : someC X h = 0 := by simpa using hc
    have HX : Hid (fpA X h = (mTo (tabD X h) X.length X.length).1) := by unfold Hid fpA; rw [if_pos hc0]
    have HY : Hid (fpB X h = (mTo (tabD X h) X.length X.length).2.1) := by unfold Hid fpB; rw [if_pos hc0]
    obtain ⟨htc, hpos⟩ := some_ok hc0
    have HT := Lib.hid htc
    have HBD := Lib.hid (tabD_bd htc)
    have hl8 := (tab_ok htc).2.1
    have HC := Lib.hid hc0
    clear hc0 htc
    go_enter Tryd.func36, Tryd.ntmps36
    go_wp2_with fail
    refine (c_impl_someCode X h _ _ HR.out).mono ?_; rintro e w1 ⟨rfl, hb1⟩
    go_wp2_with fail
    refine (c_impl_table X h _ _ (HR.out.below hb1) HT.out).mono ?_; rintro e w2 ⟨u2, rfl, ho2, hb2⟩
    obtain ⟨a2, cap2, rfl, hc2⟩ := tab_rd ho2.rd
    have HC2 := Lib.hid hc2
    have B2 := hb1.tr hb2
    have HSU := Lib.hid (fun i j c => mRow_succ (tabD X h) i j c)
    have HTS := Lib.hid (fun i => mTo_succ (tabD X h) X.length i)
    clear hc2 ho2
    go_wp2
    go_loopw [8, 9, 10, 25] (fun x y z i wr => ∃ k : Nat, k ≤ X.length ∧ i = .int .i64 k ∧ x = .int .i64 (mTo (tabD X h) X.length k).1 ∧ y = .int .i64 (mTo (tabD X h) X.length k).2.1 ∧ z = .int .i64 (mTo (tabD X h) X.length k).2.2 ∧ Below w2.heap.size w2 wr) (fun _ _ _ i _ => X.length - (intOf i).toNat)
    case atStart => exact ⟨0, by omega, rfl, rfl, rfl, rfl, Below.refl _ _⟩
    case round =>
      obtain ⟨k, hk, rfl, rfl, rfl, rfl, hbr⟩ := hrel
      by_cases hlt : k < X.length
      · obtain ⟨b1, o1, bi, oi, ci, rfl, hx, hrow⟩ := HC2.out k hlt
        have y1 := keepc hbr hx
        have HRO := Lib.hid hrow
        have HBS := Lib.hid (HTS.out k)
        clear hx hrow
        obtain ⟨c0, Hc0⟩ : ∃ c0, Hid (mTo (tabD X h) X.length k = c0) := ⟨_, rfl⟩
        rw [Hc0.out] at HBS
        rw [Hc0.out]
        obtain ⟨wo, rfl⟩ : ∃ wo : World, wo = wr := ⟨_, rfl⟩
        go_wp2
        go_loopw [8, 9, 10, 32] (fun x y z i wr => ∃ j : Nat, j ≤ X.length ∧ i = .int .i64 j ∧ x = .int .i64 (mRow (tabD X h) k c0 j).1 ∧ y = .int .i64 (mRow (tabD X h) k c0 j).2.1 ∧ z = .int .i64 (mRow (tabD X h) k c0 j).2.2 ∧ Below wo.heap.size wo wr) (fun _ _ _ i _ => X.length - (intOf i).toNat)
        case atStart => exact ⟨0, by omega, rfl, rfl, rfl, rfl, Below.refl _ _⟩
        case round =>
          obtain ⟨j, hj, rfl, rfl, rfl, rfl, hb6⟩ := hrel
          by_cases hjl : j < X.length
          · have z1 := keepc hb6 (keepc hbr (HRO.out j hjl))
            have HRS := Lib.hid (HSU.out k j c0)
            obtain ⟨d, Hd⟩ : ∃ d, Hid (tabD X h k j = d) := ⟨_, rfl⟩
            rw [Hd.out] at z1 HRS
            obtain ⟨c1, Hc1⟩ : ∃ c1, Hid (mRow (tabD X h) k c0 j = c1) := ⟨_, rfl⟩
            rw [Hc1.out] at HRS
            rw [Hc1.out]
            by_cases hyes : c1.2.2 < d
            · have HRR : Hid (mRow (tabD X h) k c0 (j + 1) = ((k : Int), (j : Int), d)) := by unfold Hid; rw [HRS.out, mStep_yes hyes]
              have hg : d > c1.2.2 := hyes
              go_wp2
              go_roundw
              case rel => exact ⟨j + 1, by omega, by go_num, by rw [HRR.out], by rw [HRR.out], by rw [HRR.out], hb6⟩
              case measure => simp [intOf]; omega
            · have HRR : Hid (mRow (tabD X h) k c0 (j + 1) = c1) := by unfold Hid; rw [HRS.out, mStep_no hyes]
              have hg : ¬ d > c1.2.2 := hyes
              go_wp2
              go_roundw
              case rel => exact ⟨j + 1, by omega, by go_num, by rw [HRR.out], by rw [HRR.out], by rw [HRR.out], hb6⟩
              case measure => simp [intOf]; omega
          · obtain rfl : j = X.length := by omega
            go_wp2
            go_roundw
            case rel => exact ⟨k + 1, by omega, by go_num, by rw [HBS.out], by rw [HBS.out], by rw [HBS.out], hbr.tr hb6⟩
            case measure => simp [intOf]; omega
      · obtain rfl : k = X.length := by omega
        go_wp2
        go_ret3
        exact ⟨by rw [HX.out, HY.out, HC.out]; rfl, B2.tr hbr⟩
  · have hc0 : ¬ someC X h = 0 := by simpa using hc
    have HX : Hid (fpA X h = 0) := by unfold Hid fpA; rw [if_neg hc0]
    have HY : Hid (fpB X h = 0) := by unfold Hid fpB; rw [if_neg hc0]
    clear hc0
    go_enter Tryd.func36, Tryd.ntmps36
    go_wp2_with fail
    refine (c_impl_someCode X h _ _ HR.out).mono ?_; rintro e w1 ⟨rfl, hb1⟩
    go_wp2
    go_ret3
    exact ⟨by rw [HX.out, HY.out]; rfl, hb1⟩
set_option maxHeartbeats 2000000 in
set_option maxRecDepth 100000 in
theorem c_spec_FarthestPair (X : List (List Int)) (h : Int) (v : Value) (w : World) (hr : RdG w v X) :
    Calls Tryd.prog 37 #[v, .int .i64 h] w fun e w' => e = .returned (.tuple #[.int .i64 (fpA X h), .int .i64 (fpB X h), .int .i64 (someC X h)]) ∧ Below w.heap.size w w' := by
  have HR := Lib.hid hr
  obtain ⟨a1, cap1, rfl, -, -⟩ := hr
  cases hc : (tabC X h != 0)
  · have hct : tabC X h = 0 := by simpa using hc
    by_cases hlen : X.length = 0
    · have HS : Hid (someC X h = 3) := by unfold Hid someC; rw [if_pos hct, if_pos hlen]
      have HX : Hid (fpA X h = 0) := by unfold Hid fpA; rw [HS.out]; rfl
      have HY : Hid (fpB X h = 0) := by unfold Hid fpB; rw [HS.out]; rfl
      have hz : ((X.length : Int) == 0) = true := by simp [hlen]
      clear hct hlen
      go_enter Tryd.func37, Tryd.ntmps37
      go_wp2_with fail
      refine (c_spec_l23Code X h _ _ HR.out).mono ?_; rintro e w1 ⟨rfl, hb1⟩
      go_wp2
      go_ret3
      exact ⟨by rw [HX.out, HY.out, HS.out]; rfl, hb1⟩
    · have HS : Hid (someC X h = 0) := by unfold Hid someC; rw [if_pos hct, if_neg hlen]
      have HX : Hid (fpA X h = (mTo (tabD X h) X.length X.length).1) := by unfold Hid fpA; rw [if_pos HS.out]
      have HY : Hid (fpB X h = (mTo (tabD X h) X.length X.length).2.1) := by unfold Hid fpB; rw [if_pos HS.out]
      have hz : ((X.length : Int) == 0) = false := by
        have : (X.length : Int) ≠ 0 := by omega
        simpa using this
      have hpos : 0 < X.length := by omega
      have HT := Lib.hid hct
      have HBD := Lib.hid (tabD_bd hct)
      have hl8 := (tab_ok hct).2.1
      clear hct hlen
      go_enter Tryd.func37, Tryd.ntmps37
      go_wp2_with fail
      refine (c_spec_l23Code X h _ _ HR.out).mono ?_; rintro e w1 ⟨rfl, hb1⟩
      go_wp2_with fail
      refine (c_spec_l23Table X h _ _ (HR.out.below hb1) HT.out).mono ?_; rintro e w2 ⟨u2, rfl, ho2, hb2⟩
      obtain ⟨a2, cap2, rfl, hc2⟩ := tab_rd ho2.rd
      have HC2 := Lib.hid hc2
      have B2 := hb1.tr hb2
      have HSU := Lib.hid (fun i j c => mRow_succ (tabD X h) i j c)
      have HTS := Lib.hid (fun i => mTo_succ (tabD X h) X.length i)
      have HI0 : Hid (mInv (tabD X h) X.length (0 == 0) (mTo (tabD X h) X.length 0) 0 0) := ⟨hpos, hpos, rfl, rfl, Or.inr ⟨rfl, rfl, rfl, rfl⟩⟩
      clear hc2 ho2
      go_wp2
      go_loopw [9, 10, 11] (fun x y i wr => ∃ k a b : Nat, k ≤ X.length ∧ i = .int .i64 k ∧ x = .int .i64 a ∧ y = .int .i64 b ∧ Hid (mInv (tabD X h) X.length (k == 0) (mTo (tabD X h) X.length k) a b) ∧ Below w2.heap.size w2 wr) (fun _ _ i _ => X.length - (intOf i).toNat)
      case atStart => exact ⟨0, 0, 0, by omega, rfl, rfl, rfl, HI0, Below.refl _ _⟩
      case round =>
        obtain ⟨k, a0, b0, hk, rfl, rfl, rfl, HI, hbr⟩ := hrel
        by_cases hlt : k < X.length
        · have HBS := Lib.hid (HTS.out k)
          obtain ⟨c0, Hc0⟩ : ∃ c0, Hid (mTo (tabD X h) X.length k = c0) := ⟨_, rfl⟩
          rw [Hc0.out] at HBS HI
          obtain ⟨wo, rfl⟩ : ∃ wo : World, wo = wr := ⟨_, rfl⟩
          have HI1 : Hid (mInv (tabD X h) X.length (k == 0 && 0 == 0) (mRow (tabD X h) k c0 0) a0 b0) := by
            have := HI.out
            unfold Hid
            simpa [mRow] using this
          go_wp2
          go_loopw [9, 10, 12] (fun x y i wr => ∃ j a b : Nat, j ≤ X.length ∧ i = .int .i64 j ∧ x = .int .i64 a ∧ y = .int .i64 b ∧ Hid (mInv (tabD X h) X.length (k == 0 && j == 0) (mRow (tabD X h) k c0 j) a b) ∧ Below wo.heap.size wo wr) (fun _ _ i _ => X.length - (intOf i).toNat)
          case atStart => exact ⟨0, a0, b0, by omega, rfl, rfl, rfl, HI1, Below.refl _ _⟩
          case round =>
            clear HI HI1
            obtain ⟨j, a, b, hj, rfl, rfl, rfl, HI, hb6⟩ := hrel
            by_cases hjl : j < X.length
            · have haL := HI.out.1
              have hbL := HI.out.2.1
              obtain ⟨b1, o1, bi, oi, ci, rfl, hx, hrow⟩ := HC2.out k hlt
              obtain ⟨b2, o2, bk, ok, ck, he, hx2, hrow2⟩ := HC2.out a haL
              cases he
              have BB := hbr.tr hb6
              have y1 := keepc BB hx
              have y2 := keepc BB hx2
              have z1 := keepc BB (hrow j hjl)
              have z2 := keepc BB (hrow2 b hbL)
              have HRS := Lib.hid (HSU.out k j c0)
              have HD0 := (HBD.out k j hlt hjl).1
              have hss : (k == 0 && j == 0) = true → k = 0 ∧ j = 0 := by simp
              have HN : Hid ((k == 0 && j + 1 == 0) = false) := by unfold Hid; simp
              have hk0 : (0 : Int) ≤ (k : Int) := Int.natCast_nonneg _
              have hk1 : (k : Int) < (X.length : Int) := by omega
              have hj0 : (0 : Int) ≤ (j : Int) := Int.natCast_nonneg _
              have hj1 : (j : Int) < (X.length : Int) := by omega
              have ha0 : (0 : Int) ≤ (a : Int) := Int.natCast_nonneg _
              have ha1 : (a : Int) < (X.length : Int) := by omega
              have hb0 : (0 : Int) ≤ (b : Int) := Int.natCast_nonneg _
              have hb1' : (b : Int) < (X.length : Int) := by omega
              have HY1 := Lib.hid (fun hg => mInv_yes HI.out hlt hjl hss hg)
              have HY2 := Lib.hid (fun hg => mInv_no HI.out hlt hjl hss HD0 hg)
              rw [← HRS.out] at HY1 HY2
              clear hx hx2 hrow hrow2 haL hbL HD0 HRS hss
              obtain ⟨d, Hd⟩ : ∃ d, Hid (tabD X h k j = d) := ⟨_, rfl⟩
              obtain ⟨f, Hf⟩ : ∃ f, Hid (tabD X h a b = f) := ⟨_, rfl⟩
              rw [Hd.out] at z1
              rw [Hf.out] at z2
              by_cases hyes : d > f
              · have HRR := Lib.hid (HY1.out (by rw [Hd.out, Hf.out]; exact hyes))
                have hlt' : decide (d > f) = true := by simpa using hyes
                go_wp2_with fail
                go_quiet (fail)
                go_wp2
                go_roundw
                case rel => exact ⟨j + 1, k, j, by omega, by go_num, rfl, rfl, by rw [HN.out]; exact HRR, by (repeat (first | (with_reducible assumption) | (with_reducible exact Below.refl _ _) | (with_reducible refine Below.setCell ?_ (by first | (simp; done) | (simp; omega)) _) | (with_reducible refine Below.al ?_ _) | (with_reducible refine Below.dr ?_) | (with_reducible refine Below.drN ?_ _) | (with_reducible refine Below.tr ?_ (by with_reducible assumption))))⟩
                case measure => simp [intOf]; omega
              · have HRR := Lib.hid (HY2.out (by rw [Hd.out, Hf.out]; exact hyes))
                have hlt' : decide (d > f) = false := by simpa using hyes
                go_wp2_with fail
                go_quiet (fail)
                go_wp2
                go_roundw
                case rel => exact ⟨j + 1, a, b, by omega, by go_num, rfl, rfl, by rw [HN.out]; exact HRR, by (repeat (first | (with_reducible assumption) | (with_reducible exact Below.refl _ _) | (with_reducible refine Below.setCell ?_ (by first | (simp; done) | (simp; omega)) _) | (with_reducible refine Below.al ?_ _) | (with_reducible refine Below.dr ?_) | (with_reducible refine Below.drN ?_ _) | (with_reducible refine Below.tr ?_ (by with_reducible assumption))))⟩
                case measure => simp [intOf]; omega
            · obtain rfl : j = X.length := by omega
              have HN : Hid ((k == 0 && X.length == 0) = ((k + 1) == 0)) := by
                unfold Hid
                have : (X.length == 0) = false := by simpa using (by omega : X.length ≠ 0)
                simp [this]
              rw [HN.out, ← HBS.out] at HI
              go_wp2
              go_roundw
              case rel => exact ⟨k + 1, a, b, by omega, by go_num, rfl, rfl, HI, hbr.tr hb6⟩
              case measure => simp [intOf]; omega
        · obtain rfl : k = X.length := by omega
          have HE1 : Hid ((mTo (tabD X h) X.length X.length).1 = (a0 : Int)) := HI.out.2.2.1
          have HE2 : Hid ((mTo (tabD X h) X.length X.length).2.1 = (b0 : Int)) := HI.out.2.2.2.1
          go_wp2
          go_ret3
          exact ⟨by rw [HX.out, HY.out, HS.out, HE1.out, HE2.out]; rfl, B2.tr hbr⟩
  · have hct : ¬ tabC X h = 0 := by simpa using hc
    have HS : Hid (someC X h = tabC X h) := by unfold Hid someC; rw [if_neg hct]
    have HX : Hid (fpA X h = 0) := by unfold Hid fpA; rw [HS.out, if_neg hct]
    have HY : Hid (fpB X h = 0) := by unfold Hid fpB; rw [HS.out, if_neg hct]
    clear hct
    go_enter Tryd.func37, Tryd.ntmps37
    go_wp2_with fail
    refine (c_spec_l23Code X h _ _ HR.out).mono ?_; rintro e w1 ⟨rfl, hb1⟩
    go_wp2
    go_ret3
    exact ⟨by rw [HX.out, HY.out, HS.out]; rfl, hb1⟩
end Go.Proofs.YtjokodlappeapaaDoor
