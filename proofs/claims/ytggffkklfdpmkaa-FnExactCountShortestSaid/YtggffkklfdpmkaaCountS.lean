/- Contract of spec.CountShortest. -/
import Derived.Test.YtggffkklfdpmkaaCount
import Derived.Test.YtggffkklfdpmkaaPlainV
namespace Go.Proofs.Ytggffkklfdpmkaa
open Go.ChangeShapes Go.WideShapes Go.ChangeAt Go.RowKit
set_option linter.unusedVariables false
set_option linter.unusedSimpArgs false
theorem ownI_val {B g n cap : Nat} {E : TypeId} {a : World} {xs : List Int} (h : OwnI E B a (.slice (some ⟨g, 0, none⟩) n cap) xs) (k : Nat) (hk : k < xs.length) :
    a.cell? ⟨g, k, none⟩ = some (.int .i64 (xs.getD k 0)) ∧ a.frozen? ⟨g, k, none⟩ = false := by
  rcases h.shape with ⟨h0, _⟩ | ⟨g', cap', he, _, _, _, _, hcr, hfr⟩
  · cases h0
  · cases he
    refine ⟨?_, hfr k⟩
    rw [hcr k hk]
    try simp [List.getD, hk]
theorem ownI_store {B g n cap : Nat} {E : TypeId} {a : World} {xs : List Int} (h : OwnI E B a (.slice (some ⟨g, 0, none⟩) n cap) xs) (j : Nat) (v : Int) :
    OwnI E B (a.setCell ⟨g, j, none⟩ (.int .i64 v)) (.slice (some ⟨g, 0, none⟩) n cap) (xs.set j v) ∧ a.grownBy (a.setCell ⟨g, j, none⟩ (.int .i64 v)) (some g) := by
  have hn : n = xs.length := by
    rcases h.shape with ⟨h0, _⟩ | ⟨g', cap', he, _⟩
    · cases h0
    · cases he; rfl
  subst hn
  exact OwnI.store h j v
theorem mapF_at {L : List Int} {h a : Int} {i : Nat} (hi : i < L.length) : (L.map (farM h a)).getD i 0 = farM h a L[i] := by simp [List.getD, hi]
set_option maxHeartbeats 8000000 in
set_option maxRecDepth 100000 in
theorem c_spec_CountShortest (h m h2 m2 : Int) (w : World) :
    Calls Try.prog 41 #[.agg #[.int .i64 h, .int .i64 m], .agg #[.int .i64 h2, .int .i64 m2]] w fun e w' => e = .returned (.tuple #[.int .i64 (countC h m h2 m2), .int .i64 (linkC h m h2 m2)]) ∧ Below w.heap.size w w' := by
  obtain ⟨W0, hW0, k0, k1, k2, k3, B0⟩ := twoStates w 36 h m h2 m2
  cases hc : (linkC h m h2 m2 != 0)
  · have hc0 : linkC h m h2 m2 = 0 := by simpa using hc
    have hdv : Hid (countC h m h2 m2 = wrap64 (waysN (adjM h) (farM h m m2).toNat m m2)) := by unfold Hid countC; rw [hc0, beq_self_eq_true, cond_true]
    have HC := Lib.hid hc0
    obtain ⟨hv, hv2, hh, hp⟩ := linkC_ok hc0
    subst hh
    have ha : m ∈ maskL (popI m) h := mem_maskL.2 ⟨(valid_iff hv).2, rfl⟩
    have hb : m2 ∈ maskL (popI m) h := mem_maskL.2 ⟨(valid_iff hv2).2, hp.symm⟩
    have hh1 : 1 ≤ h ∧ h ≤ 10 := (valid_iff hv).1
    have hmq := mask_bd hh1 ha
    have hm2q := mask_bd hh1 hb
    have hhb : 0 ≤ h ∧ h ≤ 10 := by omega
    have HXA := Lib.hid (arcs_bd (n := popI m) hh1)
    have HFL : Hid (farL (maskL (popI m) h).length (arcsL (maskL (popI m) h) h) ((idx (maskL (popI m) h) m : Nat) : Int) = (maskL (popI m) h).map (farM h m)) := farL_eq hh1 ha
    have HSO := Lib.hid (maskL_sorted (popI m) h)
    have hlen := maskL_len (popI m) h hh1
    have hXl := arcs_len' (popI m) h hh1
    have hixa := idx_lt ha
    have hixb := idx_lt hb
    have hfd := farM_bd hh1 ha hb
    have HAL := Lib.hid ha
    have HBL := Lib.hid hb
    have HFB : Hid (((maskL (popI m) h).map (farM h m)).getD (idx (maskL (popI m) h) m2) 0 = farM h m m2) := by
      unfold Hid
      rw [mapF_at hixb, idx_get hb]
    have HLY := Lib.hid (fun d => wayL_layer (n := popI m) hh1 ha d)
    have HST := Lib.hid (wayL_start (n := popI m) hh1 ha)
    have HEN := Lib.hid (fun d hd => wayL_end (n := popI m) (h := h) (a := m) (b := m2) hb (d := d) hd)
    have HFT := Lib.hid (fun i hi => mapF_at (L := maskL (popI m) h) (h := h) (a := m) (i := i) hi)
    have HYES := Lib.hid (fun d A i j t hi hj h1 h2 => wayL_yes (h := h) (a := m) (nodup_of_sorted (maskL_sorted (popI m) h)) (d := d) (A := A) (i := i) (j := j) (t := t) hi hj h1 h2)
    have HNO := Lib.hid (fun d A i j t hi hj hno => wayL_no (h := h) (a := m) (nodup_of_sorted (maskL_sorted (popI m) h)) (d := d) (A := A) (i := i) (j := j) (t := t) hi hj hno)
    have HFN := Lib.hid (fun i hi => farM_bd (n := popI m) (a := m) (b := (maskL (popI m) h)[i]'hi) hh1 ha (List.getElem_mem hi))
    clear hp hc0 hv hv2 ha hb
    go_enter Try.func41, Try.ntmps41
    go_wp2_with fail
    rw [← hW0]
    refine (c_spec_l09Two _ _ _ _ _).mono ?_; rintro e w1 ⟨rfl, hb1⟩
    have k0 := keepc hb1 k0
    have k1 := keepc hb1 k1
    have k2 := keepc hb1 k2
    have k3 := keepc hb1 k3
    have B1 : Below w.heap.size w w1 := B0.tr hb1
    clear hW0 hb1
    go_wp2_with fail
    go_region_held3 (fun w' => w'.cell? ⟨w.heap.size, 0, none⟩ = some (.int .i64 h) ∧ w'.cell? ⟨w.heap.size, 1, none⟩ = some (.int .i64 m))
      (go_keep)
      (first
        | ((go_at_call 72; refine (c_spec_l08Count m _ hmq).mono ?_; rintro e w2 ⟨rfl, rfl⟩))
        | ((go_at_call 58; refine (c_spec_l09Masks (popI m) h _ hhb).mono ?_; rintro e w3 ⟨v3, rfl, ho3, hb3⟩; have hb3' := below_drew hb3; have p0 := keepc hb3' k0; have p1 := keepc hb3' k1)))
    have p2 := keepc hb3' k2
    have p3 := keepc hb3' k3
    have B3 : Below w.heap.size w w3 := B1.tr hb3'
    have hrM := ho3.rd
    have HMW := Lib.hid hrM
    obtain ⟨aM, capM, rfl, hlM, _⟩ := hrM
    clear k0 k1 k2 k3 hb3 hb3' ho3
    go_wp2_with (go_at_call 57; refine (c_spec_l09Arcs (popI m) h _ _ hh1 HMW.out).mono ?_; rintro e w4 ⟨v4, rfl, ho4, hb4⟩; have q0 := keepc hb4 p0; have q1 := keepc hb4 p1; have q2 := keepc hb4 p2; have q3 := keepc hb4 p3; have HMW4 := Lib.hid (HMW.out.below hb4); have hr4 := OwnRow.rd rowA_len ho4; obtain ⟨a4, cap4, rfl, hl4, hcell⟩ := hr4)
    have B4 : Below w.heap.size w w4 := B3.tr hb4
    have hcell5 : ∀ k (hk : k < (arcsL (maskL (popI m) h) h).length), ∃ b off, a4 = some ⟨b, off, none⟩ ∧ ∀ c u, (rowA (arcsL (maskL (popI m) h) h)[k])[c]? = some u → w4.cell? ⟨b, off + k * 3 + c, none⟩ = some u := hcell
    have HC4 := Lib.hid hcell5
    have hr4' := OwnRow.rd rowA_len ho4
    clear p0 p1 p2 p3 hcell hcell5 hb4 ho4
    refine (c_spec_l09Find (maskL (popI m) h) m _ _ HMW4.out HSO.out HAL.out (by omega)).mono ?_; rintro e w5 ⟨rfl, rfl⟩
    go_wp2_with fail
    refine (c_spec_l09Far (maskL (popI m) h) (arcsL (maskL (popI m) h) h) ((idx (maskL (popI m) h) m : Nat) : Int) _ _ _ HMW4.out hr4' HXA.out (by omega) (by omega) (by omega)).mono ?_; rintro e w6 ⟨v6, rfl, ho6, hb6⟩
    rw [HFL.out] at ho6
    have q0 := keepc hb6 q0
    have q1 := keepc hb6 q1
    have q2 := keepc hb6 q2
    have q3 := keepc hb6 q3
    have HMW6 := Lib.hid (HMW4.out.below hb6)
    have B6 : Below w.heap.size w w6 := B4.tr hb6
    have hrF := ho6.rd
    have HC6 : Hid (∀ k (hk : k < (arcsL (maskL (popI m) h) h).length), ∃ b off, a4 = some ⟨b, off, none⟩ ∧ b < w6.heap.size ∧ ∀ c u, (rowA (arcsL (maskL (popI m) h) h)[k])[c]? = some u → w6.cell? ⟨b, off + k * 3 + c, none⟩ = some u) := fun k hk => by
      obtain ⟨b, off, hae, hcc⟩ := HC4.out k hk
      have h1 : b < w4.heap.size := by
        have := hcc 0 _ rfl
        exact World.block_lt_of_cell? w4 _ this
      exact ⟨b, off, hae, Nat.lt_of_lt_of_le h1 hb6.size, fun c u hu => keepc hb6 (hcc c u hu)⟩
    have HFLn : Hid (((maskL (popI m) h).map (farM h m)).length = (maskL (popI m) h).length) := List.length_map _
    clear hr4' HC4 hb6 ho6 HMW4 HFL
    go_wp2_with fail
    refine (c_spec_l09Find (maskL (popI m) h) m2 _ _ HMW6.out HSO.out HBL.out (by omega)).mono ?_; rintro e w7 ⟨rfl, rfl⟩
    go_wp2_with (at_make; refine make_int rfl _ _ _ _ rfl Try.underlying49 infoI w6.heap.size _ _ _ _ _ (maskL (popI m) h).length rfl rfl rfl rfl (by omega) (Nat.le_refl _) ?_; intro w8 hown hbel hsz; have B8 := hbel w6 (Below.refl _ _); have r1 := keepc B8 q1)
    clear hbel
    have r3 := keepc B8 q3
    have HMW8 := Lib.hid (HMW6.out.below B8)
    have HC8 : Hid (∀ k (hk : k < (arcsL (maskL (popI m) h) h).length), ∃ b off, a4 = some ⟨b, off, none⟩ ∧ b < w6.heap.size ∧ ∀ c u, (rowA (arcsL (maskL (popI m) h) h)[k])[c]? = some u → w8.cell? ⟨b, off + k * 3 + c, none⟩ = some u) := fun k hk => by
      obtain ⟨b, off, hae, hbl, hcc⟩ := HC6.out k hk
      exact ⟨b, off, hae, hbl, fun c u hu => keepc B8 (hcc c u hu)⟩
    have B8w : Below w.heap.size w w8 := B6.tr B8
    clear HC6 HMW6 q0 q1 q2 q3
    refine (c_spec_l09Find (maskL (popI m) h) m _ _ HMW8.out HSO.out HAL.out (by omega)).mono ?_; rintro e w9 ⟨rfl, rfl⟩
    have hwv := ownI_val hown (idx (maskL (popI m) h) m) (by simpa using hixa)
    obtain ⟨hwv1, hwv2⟩ := hwv
    obtain ⟨hst, hsg⟩ := ownI_store hown (idx (maskL (popI m) h) m) 1
    rw [HST.out] at hst
    have hia0 : (0 : Int) ≤ ((idx (maskL (popI m) h) m : Nat) : Int) := Int.natCast_nonneg _
    have hia1 : ((idx (maskL (popI m) h) m : Nat) : Int) < ((maskL (popI m) h).length : Int) := by omega
    obtain ⟨aF, capF, rfl, hFl, hFc⟩ := hrF
    obtain ⟨bF, oF, rfl, hFb⟩ := hFc (idx (maskL (popI m) h) m2) (by rw [HFLn.out]; exact hixb)
    rw [HFB.out] at hFb
    have hbF6 : bF < w6.heap.size := World.block_lt_of_cell? w6 _ hFb
    have HFC : Hid (∀ i (hi : i < (maskL (popI m) h).length), w8.cell? ⟨bF, oF + i, none⟩ = some (.int .i64 (farM h m (maskL (popI m) h)[i]))) := fun i hi => by
      obtain ⟨b', o', he', hc'⟩ := hFc i (by rw [HFLn.out]; exact hi)
      cases he'
      rw [HFT.out i hi] at hc'
      exact keepc B8 hc'
    have hFb8 := keepc B8 hFb
    have hbFl : bF < w8.heap.size := World.block_lt_of_cell? w8 _ hFb8
    clear hFb hFc HFT
    go_wp2
    obtain ⟨D, HD⟩ : ∃ D : Nat, Hid (farM h m m2 = (D : Int)) := ⟨(farM h m m2).toNat, by unfold Hid; omega⟩
    have hDn : Hid ((farM h m m2).toNat = D) := by unfold Hid; rw [HD.out]; rfl
    rw [HD.out] at hFb8 hfd
    rw [hDn.out] at hdv
    have hsg8 := hsg.size
    have hU0 : Upd w6.heap.size (w6.heap.size + 1) w8 (w8.setCell ⟨w6.heap.size, idx (maskL (popI m) h) m, none⟩ (.int .i64 1)) := upd_of_grown1 hsg
    generalize w8.setCell ⟨w6.heap.size, idx (maskL (popI m) h) m, none⟩ (.int .i64 1) = W9 at *
    clear hwv1 hwv2 hsg hown
    obtain ⟨ib, Hib⟩ : ∃ ib : Nat, Hid (idx (maskL (popI m) h) m2 = ib) := ⟨_, rfl⟩
    have HENb : Hid ((wayL h m (maskL (popI m) h) D []).getD (idx (maskL (popI m) h) m2) 0 = wrap64 (waysN (adjM h) D m m2)) := HEN.out D HD.out
    rw [Hib.out] at hixb hFb8 HENb
    rw [Hib.out]
    have hib0 : (0 : Int) ≤ (ib : Int) := Int.natCast_nonneg _
    have hib1 : (ib : Int) < ((maskL (popI m) h).length : Int) := by omega
    generalize arcsL (maskL (popI m) h) h = X at *
    go_loopw [12] (fun i wr => ∃ d : Nat, d ≤ D ∧ i = .int .i64 d ∧ OwnI1 w6.heap.size wr (.slice (some ⟨w6.heap.size, 0, none⟩) (maskL (popI m) h).length (maskL (popI m) h).length) (wayL h m (maskL (popI m) h) d []) ∧ Upd w6.heap.size (w6.heap.size + 1) w8 wr) (fun i _ => D - (intOf i).toNat)
    case atStart => exact ⟨0, by omega, rfl, hst, hU0⟩
    case round =>
      clear hst hU0
      obtain ⟨d, hd, rfl, hway, hU⟩ := hrel
      have hUs := hU.size
      have z0 : wr.cell? ⟨bF, oF + ib, none⟩ = some (.int .i64 (D : Int)) := by rw [hU.cell bF (oF + ib) (Or.inl hbF6) hbFl]; exact hFb8
      by_cases hlt : d < D
      · have HWL := Lib.hid (HLY.out d)
        go_wp2
        clear z0
        go_loopw [13] (fun i wr => ∃ k : Nat, k ≤ X.length ∧ i = .int .i64 k ∧ OwnI1 w6.heap.size wr (.slice (some ⟨w6.heap.size, 0, none⟩) (maskL (popI m) h).length (maskL (popI m) h).length) (wayL h m (maskL (popI m) h) d (X.take k)) ∧ Upd w6.heap.size (w6.heap.size + 1) w8 wr) (fun i _ => X.length - (intOf i).toNat)
        case atStart => exact ⟨0, by omega, rfl, by rw [List.take_zero]; exact hway, hU⟩
        case round =>
          clear hway hU hUs
          obtain ⟨k, hk, rfl, hway, hU⟩ := hrel
          have hUs := hU.size
          by_cases hkl : k < X.length
          · obtain ⟨b1, o1, rfl, hb1, hxx⟩ := HC8.out k hkl
            obtain ⟨⟨x0, x1, x2⟩, hxk⟩ : ∃ x, X[k] = x := ⟨_, rfl⟩
            have hab := HXA.out _ (List.getElem_mem hkl)
            rw [hxk] at hxx hab
            obtain ⟨a0, rfl⟩ := Int.eq_ofNat_of_zero_le hab.1.1
            obtain ⟨c0, rfl⟩ := Int.eq_ofNat_of_zero_le hab.2.1
            have ha0 : a0 < (maskL (popI m) h).length := by have := hab.1.2; simp at this; omega
            have hc0 : c0 < (maskL (popI m) h).length := by have := hab.2.2; simp at this; omega
            have hb1w : b1 < w8.heap.size := by omega
            have y0 : wr.cell? ⟨b1, o1 + k * 3, none⟩ = some (.int .i64 (a0 : Int)) := by rw [hU.cell b1 (o1 + k * 3) (Or.inl hb1) hb1w]; exact hxx 0 _ rfl
            have y2 : wr.cell? ⟨b1, o1 + k * 3 + 2, none⟩ = some (.int .i64 (c0 : Int)) := by rw [hU.cell b1 (o1 + k * 3 + 2) (Or.inl hb1) hb1w]; exact hxx 2 _ rfl
            have z0 : wr.cell? ⟨bF, oF + a0, none⟩ = some (.int .i64 (farM h m (maskL (popI m) h)[a0])) := by rw [hU.cell bF (oF + a0) (Or.inl hbF6) hbFl]; exact HFC.out a0 ha0
            have z2 : wr.cell? ⟨bF, oF + c0, none⟩ = some (.int .i64 (farM h m (maskL (popI m) h)[c0])) := by rw [hU.cell bF (oF + c0) (Or.inl hbF6) hbFl]; exact HFC.out c0 hc0
            have HTK : Hid (X.take (k + 1) = X.take k ++ [((a0 : Int), x1, (c0 : Int))]) := by
              unfold Hid
              rw [take_snoc _ _ hkl, hxk]
            have HY := Lib.hid (HYES.out d (X.take k) a0 c0 x1 ha0 hc0)
            have HN := Lib.hid (HNO.out d (X.take k) a0 c0 x1 ha0 hc0)
            have hv0 := (ownI_val hway a0 (by rw [wayL_len]; exact ha0)).1
            obtain ⟨hv2, hvf⟩ := ownI_val hway c0 (by rw [wayL_len]; exact hc0)
            obtain ⟨hst, hsg⟩ := ownI_store hway c0 (wrap64 ((wayL h m (maskL (popI m) h) d (X.take k)).getD c0 0 + (wayL h m (maskL (popI m) h) d (X.take k)).getD a0 0))
            have hfa := HFN.out a0 ha0
            have hfc := HFN.out c0 hc0
            have hi00 : (0 : Int) ≤ (a0 : Int) := Int.natCast_nonneg _
            have hi01 : (a0 : Int) < ((maskL (popI m) h).length : Int) := by omega
            have hi20 : (0 : Int) ≤ (c0 : Int) := Int.natCast_nonneg _
            have hi21 : (c0 : Int) < ((maskL (popI m) h).length : Int) := by omega
            have hk0 : (0 : Int) ≤ (k : Int) := Int.natCast_nonneg _
            have hk1 : (k : Int) < (X.length : Int) := by omega
            clear hxx hxk hab
            obtain ⟨fa, Hfa⟩ : ∃ fa : Int, Hid (farM h m (maskL (popI m) h)[a0] = fa) := ⟨_, Lib.hid rfl⟩
            obtain ⟨fc, Hfc⟩ : ∃ fc : Int, Hid (farM h m (maskL (popI m) h)[c0] = fc) := ⟨_, Lib.hid rfl⟩
            rw [Hfa.out] at z0 HY HN hfa
            rw [Hfc.out] at z2 HY HN hfc
            obtain ⟨va, Hva⟩ : ∃ va, Hid ((wayL h m (maskL (popI m) h) d (X.take k)).getD a0 0 = va) := ⟨_, rfl⟩
            obtain ⟨vc, Hvc⟩ : ∃ vc, Hid ((wayL h m (maskL (popI m) h) d (X.take k)).getD c0 0 = vc) := ⟨_, rfl⟩
            rw [Hva.out, Hvc.out] at HY hst hsg
            rw [Hva.out] at hv0
            rw [Hvc.out] at hv2
            by_cases hfa1 : fa = d
            · by_cases hfc1 : fc = d + 1
              · subst hfa1
                subst hfc1
                have HYY := Lib.hid (HY.out rfl rfl)
                have hneb : ¬ b1 = w6.heap.size := by omega
                have hneb' : ¬ w6.heap.size = b1 := by omega
                rw [HYY.out] at hst
                go_wp2_with fail
                refine wp_region_noPanic ?_
                refine wp_region_held_drew (S := fun w' => w'.cell? ⟨b1, o1 + k * 3, none⟩ = some (.int .i64 (a0 : Int)) ∧ w'.cell? ⟨b1, o1 + k * 3 + 2, none⟩ = some (.int .i64 (c0 : Int))) (by kernel_rfl) ?_ (fun hHeld => ?_)
                · go_keep
                (refine wpAnyH_take (i := 0) (v := ?tv1) rfl (by kernel_rfl) (by kernel_rfl) (by kernel_rfl) (fun _ _ _ h => h) (Or.inl ⟨by rfl, ?thy1⟩) (by assumption) ?trest1; case thy1 => (intro w hSw; (try dsimp only at hSw); go_simp; (try with_reducible rfl)); (try simp only [Act.put, List.setIfInBounds_toArray, List.set_cons_zero, List.set_cons_succ])); (refine wpAnyH_take (i := 1) (v := ?tv2) rfl (by kernel_rfl) (by kernel_rfl) (by kernel_rfl) (fun _ _ _ h => h) (Or.inl ⟨by rfl, ?thy2⟩) (by assumption) ?trest2; case thy2 => (intro w hSw; (try dsimp only at hSw); go_simp; (try with_reducible rfl)); (try simp only [Act.put, List.setIfInBounds_toArray, List.set_cons_zero, List.set_cons_succ])); (refine wpAnyH_take (i := 2) (v := ?tv3) rfl (by kernel_rfl) (by kernel_rfl) (by kernel_rfl) (fun _ _ _ h => h) (Or.inl ⟨by rfl, ?thy3⟩) (by assumption) ?trest3; case thy3 => (intro w hSw; (try dsimp only at hSw); go_simp; (try with_reducible rfl)); (try simp only [Act.put, List.setIfInBounds_toArray, List.set_cons_zero, List.set_cons_succ])); (refine wpAnyH_take (i := 3) (v := ?tv4) rfl (by kernel_rfl) (by kernel_rfl) (by kernel_rfl) (fun _ _ _ h => h) (Or.inl ⟨by rfl, ?thy4⟩) (by assumption) ?trest4; case thy4 => (intro w hSw; (try dsimp only at hSw); go_simp; (try with_reducible rfl)); (try simp only [Act.put, List.setIfInBounds_toArray, List.set_cons_zero, List.set_cons_succ])); (refine wpAnyH_take (i := 4) (v := ?tv5) rfl (by kernel_rfl) (by kernel_rfl) (by kernel_rfl) (fun _ _ _ h => h) (Or.inl ⟨by rfl, ?thy5⟩) (by assumption) ?trest5; case thy5 => (intro w hSw; (try dsimp only at hSw); go_simp; (try with_reducible rfl)); (try simp only [Act.put, List.setIfInBounds_toArray, List.set_cons_zero, List.set_cons_succ])); (refine wpAnyH_take (i := 5) (v := ?tv6) rfl (by kernel_rfl) (by kernel_rfl) (by kernel_rfl) (fun _ _ _ h => h) (Or.inl ⟨by rfl, ?thy6⟩) (by assumption) ?trest6; case thy6 => (intro w hSw; (try dsimp only at hSw); go_simp; (try with_reducible rfl)); (try simp only [Act.put, List.setIfInBounds_toArray, List.set_cons_zero, List.set_cons_succ])); (refine wpAnyH_take (i := 6) (v := ?tv7) rfl (by kernel_rfl) (by kernel_rfl) (by kernel_rfl) (fun _ _ _ h => h) (Or.inl ⟨by rfl, ?thy7⟩) (by assumption) ?trest7; case thy7 => (intro w hSw; (try dsimp only at hSw); go_simp; (try with_reducible rfl)); (try simp only [Act.put, List.setIfInBounds_toArray, List.set_cons_zero, List.set_cons_succ])); (refine wpAnyH_take (i := 8) (v := ?tv8) rfl (by kernel_rfl) (by kernel_rfl) (by kernel_rfl) (fun _ _ _ h => h) (Or.inl ⟨by rfl, ?thy8⟩) (by assumption) ?trest8; case thy8 => (intro w hSw; (try dsimp only at hSw); go_simp; (try with_reducible rfl)); (try simp only [Act.put, List.setIfInBounds_toArray, List.set_cons_zero, List.set_cons_succ])); (refine wpAnyH_take (i := 9) (v := ?tv9) rfl (by kernel_rfl) (by kernel_rfl) (by kernel_rfl) (fun _ _ _ h => h) (Or.inl ⟨by rfl, ?thy9⟩) (by assumption) ?trest9; case thy9 => (intro w hSw; (try dsimp only at hSw); go_simp; (try with_reducible rfl)); (try simp only [Act.put, List.setIfInBounds_toArray, List.set_cons_zero, List.set_cons_succ])); (refine wpAnyH_take (i := 10) (v := ?tv10) rfl (by kernel_rfl) (by kernel_rfl) (by kernel_rfl) (fun _ _ _ h => h) (Or.inl ⟨by rfl, ?thy10⟩) (by assumption) ?trest10; case thy10 => (intro w hSw; (try dsimp only at hSw); go_simp; (try with_reducible rfl)); (try simp only [Act.put, List.setIfInBounds_toArray, List.set_cons_zero, List.set_cons_succ])); (refine wpAnyH_take (i := 11) (v := ?tv11) rfl (by kernel_rfl) (by kernel_rfl) (by kernel_rfl) (fun _ _ _ h => h) (Or.inl ⟨by rfl, ?thy11⟩) (by assumption) ?trest11; case thy11 => (intro w hSw; (try dsimp only at hSw); go_simp; (try with_reducible rfl)); (try simp only [Act.put, List.setIfInBounds_toArray, List.set_cons_zero, List.set_cons_succ])); (refine wpAnyH_take (i := 12) (v := ?tv12) rfl (by kernel_rfl) (by kernel_rfl) (by kernel_rfl) (fun _ _ _ h => h) (Or.inl ⟨by rfl, ?thy12⟩) (by assumption) ?trest12; case thy12 => (intro w hSw; (try dsimp only at hSw); go_simp; (try with_reducible rfl)); (try simp only [Act.put, List.setIfInBounds_toArray, List.set_cons_zero, List.set_cons_succ])); (refine wpAnyH_take (i := 13) (v := ?tv13) rfl (by kernel_rfl) (by kernel_rfl) (by kernel_rfl) (fun _ _ _ h => h) (Or.inl ⟨by rfl, ?thy13⟩) (by assumption) ?trest13; case thy13 => (intro w hSw; (try dsimp only at hSw); go_simp; (try with_reducible rfl)); (try simp only [Act.put, List.setIfInBounds_toArray, List.set_cons_zero, List.set_cons_succ])); (refine wpAnyH_take (i := 14) (v := ?tv14) rfl (by kernel_rfl) (by kernel_rfl) (by kernel_rfl) (fun _ _ _ h => h) (Or.inl ⟨by rfl, ?thy14⟩) (by assumption) ?trest14; case thy14 => (intro w hSw; (try dsimp only at hSw); go_simp; (try with_reducible rfl)); (try simp only [Act.put, List.setIfInBounds_toArray, List.set_cons_zero, List.set_cons_succ]))
                refine wpAnyH_ready (rs := [7, 15]) (by kernel_rfl) (by simp) ?_
                refine AllReadyH.cons (i := 7) rfl (fun K hK => ?_) ?_
                · go_simp
                  refine hK.out _ _ (by first | assumption | go_keep) (fun hHeld => ?_); clear hK K; (try simp only [Act.put, List.setIfInBounds_toArray, List.set_cons_zero, List.set_cons_succ])
                  refine wpAnyH_ready (rs := [15]) (by kernel_rfl) (by simp) ?_; refine AllReadyH.cons (i := 15) rfl (fun K hK => ?_) AllReadyH.nil
                  go_simp
                  refine hK.out _ _ (by first | assumption | go_keep) (fun hHeld => ?_); clear hK K; (try simp only [Act.put, List.setIfInBounds_toArray, List.set_cons_zero, List.set_cons_succ])
                  (refine wpAnyH_take (i := 16) (v := ?tv15) rfl (by kernel_rfl) (by kernel_rfl) (by kernel_rfl) (fun _ _ _ h => h) (Or.inl ⟨by rfl, ?thy15⟩) (by assumption) ?trest15; case thy15 => (intro w hSw; (try dsimp only at hSw); go_simp; (try with_reducible rfl)); (try simp only [Act.put, List.setIfInBounds_toArray, List.set_cons_zero, List.set_cons_succ])); (refine wpAnyH_take (i := 17) (v := ?tv16) rfl (by kernel_rfl) (by kernel_rfl) (by kernel_rfl) (fun _ _ _ h => h) (Or.inl ⟨by rfl, ?thy16⟩) (by assumption) ?trest16; case thy16 => (intro w hSw; (try dsimp only at hSw); go_simp; (try with_reducible rfl)); (try simp only [Act.put, List.setIfInBounds_toArray, List.set_cons_zero, List.set_cons_succ]))
                  refine wpAnyH_ready (rs := [18]) (by kernel_rfl) (by simp) ?_; refine AllReadyH.cons (i := 18) rfl (fun K hK => ?_) AllReadyH.nil
                  go_simp
                  refine hK.out _ _ (by first | assumption | go_keep) (fun hHeld => ?_); clear hK K; (try simp only [Act.put, List.setIfInBounds_toArray, List.set_cons_zero, List.set_cons_succ])
                  refine wpAnyH_done (by kernel_rfl) ?_ _
                  refine NoPanic.normal ?_
                  go_wp2
                  go_roundw
                  case rel => exact ⟨k + 1, by omega, by go_num, by rw [HTK.out]; exact hst, hU.trans ⟨hsg.os, hsg.tape, hsg.output, hsg.size, (upd_of_grown1 hsg).block⟩⟩
                  case measure => simp [intOf]; omega
                refine AllReadyH.cons (i := 15) rfl (fun K hK => ?_) AllReadyH.nil
                · go_simp
                  refine hK.out _ _ (by first | assumption | go_keep) (fun hHeld => ?_); clear hK K; (try simp only [Act.put, List.setIfInBounds_toArray, List.set_cons_zero, List.set_cons_succ])
                  refine wpAnyH_ready (rs := [7]) (by kernel_rfl) (by simp) ?_; refine AllReadyH.cons (i := 7) rfl (fun K hK => ?_) AllReadyH.nil
                  go_simp
                  refine hK.out _ _ (by first | assumption | go_keep) (fun hHeld => ?_); clear hK K; (try simp only [Act.put, List.setIfInBounds_toArray, List.set_cons_zero, List.set_cons_succ])
                  (refine wpAnyH_take (i := 16) (v := ?tv17) rfl (by kernel_rfl) (by kernel_rfl) (by kernel_rfl) (fun _ _ _ h => h) (Or.inl ⟨by rfl, ?thy17⟩) (by assumption) ?trest17; case thy17 => (intro w hSw; (try dsimp only at hSw); go_simp; (try with_reducible rfl)); (try simp only [Act.put, List.setIfInBounds_toArray, List.set_cons_zero, List.set_cons_succ])); (refine wpAnyH_take (i := 17) (v := ?tv18) rfl (by kernel_rfl) (by kernel_rfl) (by kernel_rfl) (fun _ _ _ h => h) (Or.inl ⟨by rfl, ?thy18⟩) (by assumption) ?trest18; case thy18 => (intro w hSw; (try dsimp only at hSw); go_simp; (try with_reducible rfl)); (try simp only [Act.put, List.setIfInBounds_toArray, List.set_cons_zero, List.set_cons_succ]))
                  refine wpAnyH_ready (rs := [18]) (by kernel_rfl) (by simp) ?_; refine AllReadyH.cons (i := 18) rfl (fun K hK => ?_) AllReadyH.nil
                  go_simp
                  refine hK.out _ _ (by first | assumption | go_keep) (fun hHeld => ?_); clear hK K; (try simp only [Act.put, List.setIfInBounds_toArray, List.set_cons_zero, List.set_cons_succ])
                  refine wpAnyH_done (by kernel_rfl) ?_ _
                  refine NoPanic.normal ?_
                  go_wp2
                  go_roundw
                  case rel => exact ⟨k + 1, by omega, by go_num, by rw [HTK.out]; exact hst, hU.trans ⟨hsg.os, hsg.tape, hsg.output, hsg.size, (upd_of_grown1 hsg).block⟩⟩
                  case measure => simp [intOf]; omega
              · have hn2 : ¬ (fa = d ∧ fc = d + 1) := fun e => hfc1 e.2
                have HNN := Lib.hid (HN.out hn2)
                have t2 : (fc == (d : Int) + 1) = false := by simp [hfc1]
                subst hfa1
                go_wp2
                go_roundw
                case rel => exact ⟨k + 1, by omega, by go_num, by rw [HTK.out, HNN.out]; exact hway, hU⟩
                case measure => simp [intOf]; omega
            · have hn2 : ¬ (fa = d ∧ fc = d + 1) := fun e => hfa1 e.1
              have HNN := Lib.hid (HN.out hn2)
              have t1 : (fa == (d : Int)) = false := by simp [hfa1]
              go_wp2
              go_roundw
              case rel => exact ⟨k + 1, by omega, by go_num, by rw [HTK.out, HNN.out]; exact hway, hU⟩
              case measure => simp [intOf]; omega
          · have HTA : Hid (X.take k = X) := by unfold Hid; rw [List.take_of_length_le (by omega)]
            rw [HTA.out, HWL.out] at hway
            go_wp2
            go_roundw
            case rel => exact ⟨d + 1, by omega, by go_num, hway, hU⟩
            case measure => simp [intOf]; omega
      · obtain rfl : d = D := by omega
        have hv := ownI_val hway ib (by rw [wayL_len]; exact hixb)
        obtain ⟨hv, -⟩ := hv
        rw [HENb.out] at hv
        go_wp2
        go_ret2
        exact ⟨by rw [hdv.out, HC.out]; rfl, B8w.trans (hU.below (by have := B6.size; omega) (by have := B8w.size; omega))⟩
  · have hdv : Hid (countC h m h2 m2 = 0) := by
      have : (linkC h m h2 m2 == 0) = false := by simpa using hc
      unfold Hid countC; rw [this, cond_false]
    go_enter Try.func41, Try.ntmps41
    go_wp2_with fail
    rw [← hW0]
    refine (c_spec_l09Two _ _ _ _ _).mono ?_; rintro e w1 ⟨rfl, hb1⟩
    go_wp2
    go_ret2
    exact ⟨by rw [hdv.out]; rfl, by (repeat (first | (with_reducible assumption) | (with_reducible exact Below.refl _ _) | (with_reducible refine Below.setCell ?_ (by first | (simp; done) | (simp; omega)) _) | (with_reducible refine Below.al ?_ _) | (with_reducible refine Below.dr ?_) | (with_reducible refine Below.drN ?_ _) | (with_reducible refine Below.tr ?_ (by with_reducible assumption))))⟩
end Go.Proofs.Ytggffkklfdpmkaa
