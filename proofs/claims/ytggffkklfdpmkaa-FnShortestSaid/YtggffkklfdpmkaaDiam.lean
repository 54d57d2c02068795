/- Contracts on the diameter. -/
import Derived.Test.YtggffkklfdpmkaaDist2
import Derived.Test.YtggffkklfdpmkaaMemMR
import Derived.Test.YtggffkklfdpmkaaPlainM
namespace Go.Proofs.Ytggffkklfdpmkaa
open Go.ChangeShapes Go.WideShapes Go.ChangeAt Go.RowKit
set_option linter.unusedVariables false
set_option linter.unusedSimpArgs false
theorem graphC_ok {n h : Int} (hc : graphC n h = 0) : (1 ≤ h ∧ h ≤ 10) ∧ (0 ≤ n ∧ n ≤ h) := by
  unfold graphC at hc
  cases h1 : inB h 1 10
  · rw [h1] at hc; simp at hc
  · cases h2 : inB n 0 h
    · rw [h1, h2] at hc; simp at hc
    · exact ⟨inB_iff.1 h1, inB_iff.1 h2⟩
theorem graphC_cases (n h : Int) : graphC n h = 0 ∨ graphC n h = 2 := by
  unfold graphC
  cases (inB h 1 10 && inB n 0 h)
  · right; rfl
  · left; rfl
noncomputable def diamC (n h : Int) : Int := bif graphC n h == 0 then diamV n h else 0
theorem c_spec_l00Max (a b : Int) (w : World) : Calls Try.prog 76 #[.int .i64 a, .int .i64 b] w fun e w' => e = .returned (.int .i64 (max a b)) ∧ w = w' := by
  by_cases h : a > b
  · have HM : Hid (max a b = a) := by unfold Hid; omega
    go_enter Try.func76, Try.ntmps76
    go_wp2
    go_ret
    exact ⟨by rw [HM.out]; rfl, rfl⟩
  · have HM : Hid (max a b = b) := by unfold Hid; omega
    go_enter Try.func76, Try.ntmps76
    go_wp2
    go_ret
    exact ⟨by rw [HM.out]; rfl, rfl⟩
theorem farL_at {n h : Int} {k : Nat} (hh : 1 ≤ h ∧ h ≤ 10) (hk : k < (maskL n h).length) : farL (maskL n h).length (arcsL (maskL n h) h) (k : Int) = (maskL n h).map (farM h ((maskL n h).getD k 0)) := by
  have hm := getD_mem hk
  rw [← farL_eq hh hm]
  congr 1
  have e : (maskL n h).getD k 0 = (maskL n h)[k] := by simp [List.getD, hk]
  rw [e]
  unfold idxI
  rw [idx_at (nodup_of_sorted (maskL_sorted n h)) k hk]
set_option maxHeartbeats 4000000 in
set_option maxRecDepth 100000 in
theorem c_spec_Diameter (n h : Int) (w : World) :
    Calls Try.prog 29 #[.int .i64 n, .int .i64 h] w fun e w' => e = .returned (.tuple #[.int .i64 (diamC n h), .int .i64 (graphC n h)]) ∧ Below w.heap.size w w' := by
  rcases graphC_cases n h with hc | hc
  · have hk := graphC_ok hc
    have hh1 := hk.1
    have HA : Hid (diamC n h = diamV n h) := by unfold Hid diamC; rw [hc]; rfl
    have HC := Lib.hid hc
    have ht : (graphC n h != 0) = false := by simp [hc]
    have HX := Lib.hid (arcs_bd (n := n) hk.1)
    have HF := Lib.hid (fun k => farL_at (n := n) (h := h) (k := k) hk.1)
    have HS := Lib.hid (fun k => diamTo_succ (n := n) (h := h) (k := k))
    have HB := Lib.hid (diamTo_bd (n := n) hk.1)
    have hlen := maskL_len n h hk.1
    have hXl := arcs_len' n h hk.1
    clear hc hk
    go_enter Try.func29, Try.ntmps29
    go_wp2_with (first | (go_at_call 56; refine (c_spec_l09Code _ _ _).mono ?_; rintro e w1 ⟨rfl, rfl⟩) | (go_at_call 58; refine (c_spec_l09Masks n h _ (by omega)).mono ?_; rintro e w1 ⟨v1, rfl, ho1, hb1⟩) | (go_at_call 57; refine (c_spec_l09Arcs n h _ _ hh1 ho1.rd).mono ?_; rintro e w2 ⟨v2, rfl, ho2, hb2⟩))
    have hr1 := ho1.rd.below hb2
    have hr2 := OwnRow.rd rowA_len ho2
    have B2 : Below w.heap.size w w2 := Below.tr hb1 hb2
    have HM : Hid (RdI w2 v1 (maskL n h)) := hr1
    have HR : Hid (RdRow 3 rowA w2 v2 (arcsL (maskL n h) h)) := hr2
    have hr1' := hr1
    obtain ⟨am, capm, rfl, hml, _⟩ := hr1'
    clear hb1 hb2 ho1 ho2 hr1 hr2
    go_loopw [9, 10] (fun mx i wr => ∃ k : Nat, k ≤ (maskL n h).length ∧ i = .int .i64 k ∧ mx = .int .i64 (diamTo n h k) ∧ Below w2.heap.size w2 wr) (fun _ i _ => (maskL n h).length - (intOf i).toNat)
    case atStart => exact ⟨0, by omega, rfl, by rw [diamTo_zero], Below.refl _ _⟩
    case round =>
      obtain ⟨k, hk, rfl, rfl, hb⟩ := hrel
      by_cases hlt : k < (maskL n h).length
      · have hFk := HF.out k hlt
        have hSk := Lib.hid (HS.out k hlt)
        go_wp2_with (go_at_call 75; refine (c_spec_l09Far (maskL n h) (arcsL (maskL n h) h) (k : Int) _ _ _ (HM.out.below hb) (HR.out.below hb) HX.out (by omega) (by omega) (by omega)).mono ?_; rintro e w3 ⟨v3, rfl, ho3, hb3⟩; rw [hFk] at ho3)
        obtain ⟨x, Hx⟩ : ∃ x, Hid ((maskL n h).getD k 0 = x) := ⟨_, rfl⟩
        rw [Hx.out] at ho3 hSk
        have hrl := ho3.rd
        have hbk := HB.out k (by omega)
        have hmle : ((maskL n h).map (farM h x)).length ≤ 1024 := by simp; omega
        have hbk1 := HB.out (k + 1) (by omega)
        rw [hSk.out] at hbk1
        obtain ⟨D, HD⟩ : ∃ D, Hid ((maskL n h).map (farM h x) = D) := ⟨_, rfl⟩
        rw [HD.out] at hrl hSk hmle hbk1
        obtain ⟨ad, capd, rfl, hdl, hdc⟩ := hrl
        have B3 : Below w2.heap.size w2 w3 := hb.tr hb3
        have HG := Lib.hid (mxF_ge (diamTo n h k) D)
        obtain ⟨d0, Hd0⟩ : ∃ d0, Hid (diamTo n h k = d0) := ⟨_, rfl⟩
        rw [Hd0.out] at hSk hbk hbk1 HG
        rw [Hd0.out]
        clear ho3 hb3 hFk
        go_wp2
        go_loopw [9, 12] (fun mx i wr => ∃ j : Nat, j ≤ D.length ∧ i = .int .i64 j ∧ mx = .int .i64 (mxF d0 (D.take j)) ∧ wr = w3) (fun _ i _ => D.length - (intOf i).toNat)
        case atStart => exact ⟨0, by omega, rfl, by simp [mxF], rfl⟩
        case round =>
          obtain ⟨j, hj, rfl, rfl, rfl⟩ := hrel
          by_cases hjl : j < D.length
          · obtain ⟨b1, o1, rfl, hx⟩ := hdc j hjl
            have hT : Hid (mxF d0 (D.take (j + 1)) = max (mxF d0 (D.take j)) (D.getD j 0)) := by
              unfold Hid
              rw [take_snoc _ _ hjl, mxF_snoc]; simp [List.getD, hjl]
            go_wp2_with (go_at_call 76; refine (c_spec_l00Max _ _ _).mono ?_; rintro e w1 ⟨rfl, rfl⟩)
            go_roundw
            case rel => exact ⟨j + 1, by omega, by go_num, by rw [hT.out]; simp [List.getD, hjl], by trivial⟩
            case measure => simp [intOf]; omega
          · have HT : Hid (mxF d0 (D.take j) = mxF d0 D) := by unfold Hid; rw [List.take_of_length_le (by omega)]
            go_wp2
            go_roundw
            case rel => exact ⟨k + 1, by omega, by go_num, by rw [hSk.out, HT.out], B3⟩
            case measure => simp [intOf]; omega
      · obtain rfl : k = (maskL n h).length := by omega
        go_wp2
        go_ret2
        exact ⟨by rw [HA.out, HC.out]; rfl, B2.tr hb⟩
  · have HA : Hid (diamC n h = 0) := by unfold Hid diamC; rw [hc]; rfl
    have HC := Lib.hid hc
    have ht : (graphC n h != 0) = true := by simp [hc]
    clear hc
    go_enter Try.func29, Try.ntmps29
    go_wp2_with (go_at_call 56; refine (c_spec_l09Code _ _ _).mono ?_; rintro e w1 ⟨rfl, rfl⟩)
    go_ret2
    exact ⟨by rw [HA.out]; rfl, by (repeat (first | (with_reducible assumption) | (with_reducible exact Below.refl _ _) | (with_reducible refine Below.setCell ?_ (by first | (simp; done) | (simp; omega)) _) | (with_reducible refine Below.al ?_ _) | (with_reducible refine Below.dr ?_) | (with_reducible refine Below.drN ?_ _) | (with_reducible refine Below.tr ?_ (by with_reducible assumption))))⟩
set_option maxHeartbeats 4000000 in
set_option maxRecDepth 100000 in
theorem c_impl_Diameter (n h : Int) (w : World) :
    Calls Try.prog 30 #[.int .i64 n, .int .i64 h] w fun e w' => e = .returned (.tuple #[.int .i64 (diamC n h), .int .i64 (graphC n h)]) ∧ Below w.heap.size w w' := by
  rcases graphC_cases n h with hc | hc
  · have hk := graphC_ok hc
    have hh1 := hk.1
    have HA : Hid (diamC n h = diamV n h) := by unfold Hid diamC; rw [hc]; rfl
    have HC := Lib.hid hc
    have ht : (graphC n h != 0) = false := by simp [hc]
    have HS := Lib.hid (fun k => diamTo_succ (n := n) (h := h) (k := k))
    have HB := Lib.hid (diamTo_bd (n := n) hk.1)
    have hlen := maskL_len n h hk.1
    have HMX := Lib.hid (fun x b r hx => mx_done (n := n) (x := x) (b := b) (r := r) hk.1 hx)
    have HML := Lib.hid (fun x => mem_maskL (n := n) (h := h) (m := x))
    have HFS := Lib.hid (fun x y c hx => far_some (n := n) (x := x) (y := y) (c := c) hk.1 hx)
    have HFB := Lib.hid (fun x y hx hy => farM_bd (n := n) (a := x) (b := y) hk.1 hx hy)
    clear hc hk
    go_enter Try.func30, Try.ntmps30
    go_wp2_with (first | (go_at_call 59; refine (c_impl_graphCode _ _ _).mono ?_; rintro e w1 ⟨rfl, rfl⟩) | (go_at_call 61; refine (c_impl_allStates n h _ (by omega)).mono ?_; rintro e w1 ⟨v1, rfl, ho1, hb1⟩; have hr1 := OwnRow.rd (rowS_len h) ho1; obtain ⟨a1, cap1, rfl, hl1, _⟩ := hr1))
    have hr1 := OwnRow.rd (rowS_len h) ho1
    obtain ⟨_, _, he1, _, hc1⟩ := hr1
    cases he1
    have hlt1 := World.ownsRow.lt ho1.1
    have B1 : Below w.heap.size w w1 := hb1
    clear hb1 ho1
    go_loopw [7, 22] (fun mx i wr => ∃ k : Nat, k ≤ (maskL n h).length ∧ i = .int .i64 k ∧ mx = .int .i64 (diamTo n h k) ∧ Below w1.heap.size w1 wr) (fun _ i _ => (maskL n h).length - (intOf i).toNat)
    case atStart => exact ⟨0, by omega, rfl, by rw [diamTo_zero], Below.refl _ _⟩
    case round =>
      obtain ⟨k, hk, rfl, rfl, hb⟩ := hrel
      have hbs := hb.size
      by_cases hlt : k < (maskL n h).length
      · obtain ⟨b1, o1, rfl, hx⟩ := hc1 k hlt
        have hb1 := hlt1 b1 rfl
        have y0 : wr.cell? ⟨b1, o1 + k * 2, none⟩ = some (.int .i64 h) := by rw [hb.cell (p := ⟨b1, o1 + k * 2, none⟩) hb1.2]; exact hx 0 _ rfl
        have y1 : wr.cell? ⟨b1, o1 + k * 2 + 1, none⟩ = some (.int .i64 ((maskL n h).getD k 0)) := by
          rw [hb.cell (p := ⟨b1, o1 + k * 2 + 1, none⟩) hb1.2]
          have h1 := hx 1 (.int .i64 (maskL n h)[k]) rfl
          rw [h1]; simp [List.getD, hlt]
        have hSk := Lib.hid (HS.out k hlt)
        have hxL := getD_mem hlt
        have hxm := (HML.out _).1 hxL
        have HXL := Lib.hid hxL
        obtain ⟨x, Hx⟩ : ∃ x, Hid ((maskL n h).getD k 0 = x) := ⟨_, rfl⟩
        rw [Hx.out] at y1 hSk HXL hxm
        have hpx : Hid (popI x = n) := hxm.2
        have hbk := HB.out k (by omega)
        obtain ⟨d0, Hd0⟩ : ∃ d0, Hid (diamTo n h k = d0) := ⟨_, rfl⟩
        rw [Hd0.out] at hSk hbk
        rw [Hd0.out]
        have hxq := hxm.1
        have hneb : ¬ wr.heap.size = b1 := by omega
        clear hx hc1 hxL hxm
        go_wp2_with (first
          | (go_at_call 74; refine (c_impl_distancesFrom h x _ hh1 hxq).mono ?_; rintro e w3 ⟨bm, rfl, hom, hb3⟩)
          | (at_range; refine map_range rfl _ _ rfl Try.underlying74 Try.underlying2 _ _ bm _ (dist (adjM h) x) w3 rfl hom ?_; intro w4 cnt4 hrg hb4 hs4))
        go_frame
        have B3s : w1.heap.size ≤ w3.heap.size := (Below.tr (hb.al _) hb3).size
        have B4 : Below w1.heap.size w1 w4 := (Below.tr (hb.al _) hb3).tr hb4
        go_loopw [7, 29] (fun mx _ wr => ∃ (todo : Int → Bool) (q : Int) (c : Nat), mx = .int .i64 q ∧ RangeM Try.prog 2 2 wr bm w3.heap.size (maskL (popI x) h).length (dist (adjM h) x) todo c ∧ d0 ≤ q ∧ q ≤ 1024 ∧
          Hid (∀ y c, todo y = false → dist (adjM h) x y = some c → c ≤ q) ∧ Hid (q = d0 ∨ ∃ y, dist (adjM h) x y = some q) ∧ Below w1.heap.size w1 wr) (fun _ _ wr => wr.rangeLeft bm w3.heap.size)
        case atStart => exact ⟨_, d0, cnt4, rfl, hrg, by omega, by omega, fun y c h1 h2 => (by rw [h2] at h1; cases h1), Or.inl rfl, B4⟩
        case round =>
          obtain ⟨todo, q, c0, rfl, hrg, hq1, hq2, HQ, HE, hb5⟩ := hrel
          have hlr := hrg.lt
          go_wp2_with (first | (at_next; refine map_next rfl _ rfl Try.underlying2 Try.underlying2 bm w3.heap.size _ _ _ _ _ rfl hrg ?_ ?_) | go_in)
          · intro htd
            have HE2 : Hid (q = mxF d0 ((maskL n h).map (farM h x))) := HMX.out x d0 q HXL.out hq1 (fun y c h1 => HQ.out y c (htd y) h1) HE.out
            go_wp2
            go_roundw
            case rel => exact ⟨k + 1, by omega, by go_num, by rw [hSk.out, ← HE2.out], hb5⟩
            case measure => simp [intOf]; omega
          · intro y c w6 cnt6 hy1 hy2 hty hfy hrg6 hlt6 hg6 hs6 hen
            obtain ⟨hyL, hcv⟩ := HFS.out x y c HXL.out hfy
            have hcb := HFB.out x y HXL.out hyL
            rw [← hcv] at hcb
            have hmb : max q c ≤ 1024 ∧ d0 ≤ max q c := by omega
            have B6 : Below w1.heap.size w1 w6 := hb5.grown hg6 hb5.size (fun g hg => by cases hg; have := B3s; omega)
            clear hcv hyL
            go_wp2
            go_roundw
            case rel => exact ⟨_, max q c, cnt6, by congr 1; split <;> omega, hrg6, hmb.2, hmb.1, fun z cz h1 h2 => by
              by_cases hz : z = y
              · subst hz
                rw [hfy] at h2
                cases h2
                omega
              · have h3 : todo z = false := by simpa [hz] using h1
                have := HQ.out z cz h3 h2
                omega, by
                  by_cases hqc : q ≤ c
                  · right; exact ⟨y, by rw [show max q c = c by omega]; exact hfy⟩
                  · rw [show max q c = q by omega]; exact HE.out, B6⟩
            case measure => rw [hrg6.left_eq, hrg.left_eq]; exact hlt6
      · obtain rfl : k = (maskL n h).length := by omega
        clear hc1
        go_wp2
        go_ret2
        exact ⟨by rw [HA.out, HC.out]; rfl, B1.tr hb⟩
  · have HA : Hid (diamC n h = 0) := by unfold Hid diamC; rw [hc]; rfl
    have HC := Lib.hid hc
    have ht : (graphC n h != 0) = true := by simp [hc]
    clear hc
    go_enter Try.func30, Try.ntmps30
    go_wp2_with (go_at_call 59; refine (c_impl_graphCode _ _ _).mono ?_; rintro e w1 ⟨rfl, rfl⟩)
    go_ret2
    exact ⟨by rw [HA.out]; rfl, by (repeat (first | (with_reducible assumption) | (with_reducible exact Below.refl _ _) | (with_reducible refine Below.setCell ?_ (by first | (simp; done) | (simp; omega)) _) | (with_reducible refine Below.al ?_ _) | (with_reducible refine Below.dr ?_) | (with_reducible refine Below.drN ?_ _) | (with_reducible refine Below.tr ?_ (by with_reducible assumption))))⟩
end Go.Proofs.Ytggffkklfdpmkaa
