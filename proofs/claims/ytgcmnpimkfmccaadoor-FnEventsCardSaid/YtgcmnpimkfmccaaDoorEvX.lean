/- Walks: EventsOf of the reference. -/
import Derived.Test.YtgcmnpimkfmccaaDoorEvI
import Derived.Test.YtgcmnpimkfmccaaDoorEvS
namespace Go.Proofs.YtgcmnpimkfmccaaDoor
open Go.ChangeShapes Go.WideShapes Go.ChangeAt Go.RowKit Go.Sort
set_option linter.unusedSimpArgs false
set_option linter.unusedVariables false
theorem evS_none {p : List Int} {B D f t : Int} {b : Nat} (h : atP p b = 0) : Hid (evS p B D f t (b + 1) = evS p B D f t b) := by
  unfold Hid; rw [evS]
  have : evB p B D f t b = [] := by unfold evB; rw [h]; rfl
  rw [this]; rfl
theorem evS_some {p : List Int} {B D f t T O : Int} {b : Nat} {L : List Ev} (h : atP p b ≠ 0) (hT : (b : Int) * B = T) (hO : ordA p b = O) (hL : evS p B D f t b = L) :
    Hid (evS p B D f t (b + 1) = putL (putL L (bif inB T f t then [⟨T, true, (b : Int) % 2, O⟩] else [])) (bif inB (T - D) f t then [⟨T - D, false, (b : Int) % 2, O⟩] else [])) := by
  unfold Hid; rw [evS, hL]
  have : evB p B D f t b = (bif inB T f t then [⟨T, true, (b : Int) % 2, O⟩] else []) ++ (bif inB (T - D) f t then [⟨T - D, false, (b : Int) % 2, O⟩] else []) := by
    unfold evB inB
    rw [beq_eq_false_iff_ne.2 h, cond_false, hT, hO]
  rw [this]
  cases inB T f t <;> cases inB (T - D) f t <;> rfl
theorem evS_len (p : List Int) (B D f t : Int) (n : Nat) : (evS p B D f t n).length ≤ 2 * n := by
  rw [(evS_perm p B D f t n).length_eq]; exact evL_len p B D f t n
theorem putE_len (l : List Ev) (e : Ev) : (putE l e).length = l.length + 1 := by rw [(putE_perm l e).length_eq]; simp
set_option maxHeartbeats 8000000 in
set_option maxRecDepth 100000 in
theorem c_spec_EventsOf (p : List Int) (B D f t : Int) (v : Value) (w : World) (hr : RdI w v p) :
    Calls Tryd.prog 9 #[v, .agg #[.int .i64 B, .int .i64 D], .int .i64 f, .int .i64 t] w fun e w' => ∃ u, e = .returned (.tuple #[u, .int .i64 (evC p B D f t)]) ∧ EvAt w.heap.size w' u (evP p B D f t) ∧ Below w.heap.size w w' := by
  have HR := Lib.hid hr
  clear hr
  obtain ⟨W0, hW0⟩ : ∃ W0, W0 = w.alloc (Obj.cells #[Value.int IntKind.i64 B, Value.int IntKind.i64 D] 26) := ⟨_, rfl⟩
  have k0 : W0.cell? ⟨w.heap.size, 0, none⟩ = some (.int .i64 B) := by rw [hW0]; exact World.cell?_alloc_at _ _ _ _ rfl
  have k1 : W0.cell? ⟨w.heap.size, 1, none⟩ = some (.int .i64 D) := by rw [hW0]; exact World.cell?_alloc_at _ _ _ _ rfl
  have B0 : Below w.heap.size w W0 := by rw [hW0]; exact (Below.refl _ _).al _
  by_cases hL : frCode p B D 0 f = 0
  · obtain ⟨hv, hvt, hx, ht⟩ := frCode_ok hL
    obtain ⟨hB, hD⟩ := validT_bd hvt
    have HL := Lib.hid hL
    have HV := Lib.hid hv
    clear hL hv
    go_enter Tryd.func9, Tryd.ntmps9
    go_wp2_with fail
    rw [← hW0]
    clear hW0
    refine (c_spec_l26Code p B D 0 f _ _ (HR.out.below B0)).mono ?_; rintro e w2 ⟨rfl, hb2⟩; rw [HL.out]
    have k0 := keepc hb2 k0
    have k1 := keepc hb2 k1
    have B2 := B0.tr hb2
    go_wp2_with fail
    refine (c_spec_l00In t f 3000 _).mono ?_; rintro e w3 ⟨rfl, rfl⟩
    cases hin : inB t f (min (f + 400) 3000)
    · obtain ⟨HC, HP⟩ := ev_c2 HL.out hin
      cases hi3 : inB t f 3000
      · go_wp2
        exact bodyPost_ret (v := .tuple #[.slice none 0 0, .int .i64 2]) (by simp [results, Tryd.results9, go_sem]) rfl ⟨_, by rw [HC.out], Or.inl ⟨rfl, HP.out⟩, B2⟩
      · have h3 := inB_iff.1 hi3
        have hgt : f + 400 < t := by
          have h4 : ¬ (f ≤ t ∧ t ≤ min (f + 400) 3000) := fun h => by rw [inB_iff.2 h] at hin; cases hin
          omega
        go_wp2
        exact bodyPost_ret (v := .tuple #[.slice none 0 0, .int .i64 2]) (by simp [results, Tryd.results9, go_sem]) rfl ⟨_, by rw [HC.out], Or.inl ⟨rfl, HP.out⟩, B2⟩
    · have hin1 := inB_iff.1 hin
      have hin' := hin
      have hi3 : inB t f 3000 = true := inB_iff.2 (by omega)
      have hgt : ¬ f + 400 < t := by omega
      have hB0 : B ≠ 0 := by omega
      have hB1 : (B == 0) = false := by simpa using hB0
      have hdiv1 : 0 ≤ t / B := Int.ediv_nonneg (by omega) (by omega)
      have hdiv2 : t / B ≤ 1500 := by
        have : t / B < 1501 := Int.ediv_lt_of_lt_mul (by omega) (by omega)
        omega
      obtain ⟨N, hN⟩ : ∃ N : Nat, t / B + 4 = (N : Int) := ⟨(t / B + 4).toNat, by omega⟩
      have hNb : N ≤ 1504 := by omega
      have HN := Lib.hid hN
      have hwN : wrap64 (t / B + 3) = (N : Int) - 1 := by unfold wrap64; omega
      have hwM : wrap64 (t / B + 4) = (N : Int) := by rw [hN]; unfold wrap64; omega
      rw [hi3]
      clear hdiv1 hdiv2 hN
      go_wp2_with fail
      (try simp only [hwN])
      refine (c_spec_l13Order p N _ _ (HR.out.below B2) HV.out (by omega)).mono ?_; rintro e w4 ⟨u4, rfl, hu4, hb4⟩
      have k0'' := keepc hb4 k0
      have k1'' := keepc hb4 k1
      have B4 := B2.tr hb4
      obtain ⟨au, cu, rfl, hul, huc⟩ := hu4.rd
      have HUC : Hid (∀ b, b < N → ∃ bu ou, au = some ⟨bu, ou, none⟩ ∧ w4.cell? ⟨bu, ou + b, none⟩ = some (.int .i64 (ordA p b))) := fun b hb => by
        obtain ⟨bu, ou, hau, hc⟩ := huc b (by rw [ordL_len]; exact hb)
        exact ⟨bu, ou, hau, by rw [← ordL_get p hb]; exact hc⟩
      obtain ⟨LL, HLL⟩ : ∃ LL, Hid ((ordL p N).length = LL) := ⟨_, Lib.hid rfl⟩
      have hLL : LL = N := by rw [← HLL.out]; exact ordL_len _ _
      rw [show (ordL p N).length = LL from HLL.out]
      subst hLL
      have hzw : w.heap.size < w4.heap.size := World.block_lt_of_cell? _ _ k0''
      have HLN := Lib.hid (validP_iff.1 HV.out).1.2
      clear hul huc HLL hu4 hwN hwM hb2 hB0 hB1 hin k0 k1
      go_wp2_with fail
      go_loopw [13, 14] (fun u i wr => ∃ (b g c : Nat), b ≤ LL ∧ i = .int .i64 b ∧ u = .slice (some ⟨g, 0, none⟩) (evS p B D f t b).length c ∧ OwnRow 36 4 rowE w4.heap.size wr.heap.size wr u (evS p B D f t b) ∧ (evS p B D f t b).length ≤ c ∧ Below w4.heap.size w4 wr) (fun _ i _ => LL - (intOf i).toNat)
      case atStart => exact ⟨0, w4.heap.size, 0, Nat.zero_le _, rfl, rfl, (OwnRow.made rfl rfl (Nat.le_refl _)).tight, Nat.le_refl _, (Below.refl _ _).al _⟩
      case round =>
        obtain ⟨b, g, c, hb, rfl, rfl, ho, hcap6, Br⟩ := hrel
        have k0 := keepc Br k0''
        have k1 := keepc Br k1''
        have hLb := evS_len p B D f t b
        by_cases hlt : b < LL
        · have hltI : (b : Int) ≤ (LL : Int) - 1 := by omega
          obtain ⟨bu, ou, rfl, hx0⟩ := HUC.out b hlt
          have hx1 := keepc Br hx0
          by_cases ha : atP p b = 0
          · have HE := evS_none (B := B) (D := D) (f := f) (t := t) ha
            have HA : Hid (p.getD ((b : Int) % (p.length : Int)).toNat 0 = 0) := ha
            clear ha
            go_wp2_with fail
            refine (c_spec_l02At p b _ _ (HR.out.below (B4.tr Br)) HLN.out (by omega)).mono ?_; rintro e w5 ⟨rfl, rfl⟩
            rw [HA.out]
            go_wp2
            exact ⟨⟨b + 1, g, c, hlt, by go_num, by rw [HE.out], by rw [HE.out]; exact ho, by rw [HE.out]; exact hcap6, Br⟩, by simp [intOf]; omega⟩
          · obtain ⟨O, hO⟩ : ∃ O, Hid (ordA p b = O) := ⟨_, Lib.hid rfl⟩
            rw [hO.out] at hx1
            obtain ⟨T, HT⟩ : ∃ T, Hid ((b : Int) * B = T) := ⟨_, Lib.hid rfl⟩
            have hTb := bt_bd (b := (b : Int)) (B := B) (M := 1504) (by omega) hB
            rw [HT.out] at hTb
            have hwT : IntKind.i64.wrap ((b : Int) * B) = T := by rw [HT.out]; exact IntWalk.i64_in _ (by omega)
            obtain ⟨LB, HLB⟩ : ∃ LB, Hid (evS p B D f t b = LB) := ⟨_, Lib.hid rfl⟩
            have HE := evS_some (D := D) (f := f) (t := t) ha HT.out hO.out HLB.out
            obtain ⟨X, HX⟩ : ∃ X, Hid (p.getD ((b : Int) % (p.length : Int)).toNat 0 = X) := ⟨_, Lib.hid rfl⟩
            have ha' : (X == 0) = false := by rw [← HX.out]; exact beq_eq_false_iff_ne.2 ha
            rw [HLB.out] at ho hcap6 hLb ⊢
            have hg6 : g < wr.heap.size := ho.2 g rfl
            have HO := Lib.hid ho
            have hrd := ho.rd rowE_len
            clear ha ho
            go_wp2_with fail
            refine (c_spec_l02At p b _ _ (HR.out.below (B4.tr Br)) HLN.out (by omega)).mono ?_; rintro e w5 ⟨rfl, rfl⟩
            rw [HX.out]
            go_wp2_with fail
            refine (c_spec_l00In T f t _).mono ?_; rintro e w5 ⟨rfl, rfl⟩
            cases hi1 : inB T f t
            · rw [hi1, cond_false] at HE
              obtain ⟨L1, HL1⟩ : ∃ L1, L1 = LB := ⟨_, rfl⟩
              have HE : Hid (evS p B D f t (b + 1) = putL L1 (bif inB (T - D) f t then [⟨T - D, false, (b : Int) % 2, O⟩] else [])) := by rw [HL1]; exact HE
              rw [← HL1] at HO hrd hcap6 hLb ⊢
              obtain ⟨g1, hg1⟩ : ∃ g1, g1 = g := ⟨_, rfl⟩
              obtain ⟨c1, hc1⟩ : ∃ c1, c1 = c := ⟨_, rfl⟩
              rw [← hg1, ← hc1] at HO hrd ⊢
              rw [← hg1] at hg6
              rw [← hc1] at hcap6
              have HO1 := HO
              have hrd1 := hrd
              have hg8 := hg6
              have hcap8 := hcap6
              have HBs := Lib.hid Br
              clear HL1 hg1 hc1 HLB HO hrd
              go_wp2_with fail
              refine (c_spec_l00In (T - D) f t _).mono ?_; rintro e w5 ⟨rfl, rfl⟩
              cases hi2 : inB (T - D) f t
              · rw [hi2, cond_false] at HE
                have HE2 : Hid (evS p B D f t (b + 1) = L1) := HE.out
                clear HE hrd1
                go_wp2
                exact ⟨⟨b + 1, g1, c1, hlt, by go_num, by rw [HE2.out], by rw [HE2.out]; exact HO1.out, by rw [HE2.out]; exact hcap8, HBs.out⟩, by simp [intOf]; omega⟩
              · rw [hi2, cond_true] at HE
                have HE2 : Hid (evS p B D f t (b + 1) = putE L1 ⟨T - D, false, (b : Int) % 2, O⟩) := HE.out
                clear HE
                have hwd8 : IntKind.i64.wrap (T - D) = T - D := IntWalk.i64_in _ (by omega)
                have hcl8 : L1.length < 100000 := by omega
                go_wp2_with fail
                go_region_held3 (fun w' => w'.cell? ⟨w.heap.size, 0, none⟩ = some (.int .i64 B) ∧ w'.cell? ⟨w.heap.size, 1, none⟩ = some (.int .i64 D) ∧ w'.cell? ⟨bu, ou + b, none⟩ = some (.int .i64 O))
                  (go_keep)
                  (first
                    | ((go_at_call 27; refine (c_spec_l02Mod b 2 _ (by omega) (by omega)).mono ?_; rintro e w5 ⟨rfl, rfl⟩))
                    | ((go_at_call 26; refine (c_spec_l26Put L1 ⟨T - D, false, (b : Int) % 2, O⟩ g1 c1 _ (hrd1.below ((Below.refl _ _).dr)) hcl8 hg8 hcap8).mono ?_; rintro e w8 ⟨u8, rfl, ho8, hb8⟩; have hb8' := below_drew hb8; have z0 := keepc hb8' k0; have z1 := keepc hb8' k1; have z2 := keepc hb8' hx1)))
                have hws := HBs.out.size
                have hsz8 := hb8'.size
                have hl8 := putE_len L1 ⟨T - D, false, (b : Int) % 2, O⟩
                obtain ⟨g8, c8, rfl, hc8, hlo8, hhi8⟩ := own_shape ho8 (own_some ho8 (by omega))
                have HZ : Hid (OwnRow 36 4 rowE w4.heap.size w8.heap.size w8 _ (putE L1 ⟨T - D, false, (b : Int) % 2, O⟩) ∧ Below w4.heap.size w4 w8) := ⟨ho8.wide (by simp at *; omega) (Nat.le_refl _), HBs.out.tr hb8'⟩
                clear ho8 hb8 hb8' hrd1 z0 z1 z2 hl8
                go_wp2
                exact ⟨⟨b + 1, g8, c8, hlt, by go_num, by rw [HE2.out], by rw [HE2.out]; exact HZ.out.1, by rw [HE2.out]; exact hc8, HZ.out.2⟩, by simp [intOf]; omega⟩
            · rw [hi1, cond_true] at HE
              have hwd6 : IntKind.i64.wrap (T) = T := IntWalk.i64_in _ (by omega)
              have hcl6 : LB.length < 100000 := by omega
              go_wp2_with fail
              go_region_held3 (fun w' => w'.cell? ⟨w.heap.size, 0, none⟩ = some (.int .i64 B) ∧ w'.cell? ⟨w.heap.size, 1, none⟩ = some (.int .i64 D) ∧ w'.cell? ⟨bu, ou + b, none⟩ = some (.int .i64 O))
                (go_keep)
                (first
                  | ((go_at_call 27; refine (c_spec_l02Mod b 2 _ (by omega) (by omega)).mono ?_; rintro e w5 ⟨rfl, rfl⟩))
                  | ((go_at_call 26; refine (c_spec_l26Put LB ⟨T, true, (b : Int) % 2, O⟩ g c _ (hrd.below ((Below.refl _ _).dr)) hcl6 hg6 hcap6).mono ?_; rintro e w6 ⟨u6, rfl, ho6, hb6⟩; have hb6' := below_drew hb6; have z0 := keepc hb6' k0; have z1 := keepc hb6' k1; have z2 := keepc hb6' hx1)))
              have hws6 := Br.size
              have hsz6 := hb6'.size
              have hl6 := putE_len LB ⟨T, true, (b : Int) % 2, O⟩
              obtain ⟨g1, c1, rfl, hcap8, hlo6, hhi6⟩ := own_shape ho6 (own_some ho6 (by omega))
              obtain ⟨L1, HL1⟩ : ∃ L1, L1 = putE LB ⟨T, true, (b : Int) % 2, O⟩ := ⟨_, rfl⟩
              have HE : Hid (evS p B D f t (b + 1) = putL L1 (bif inB (T - D) f t then [⟨T - D, false, (b : Int) % 2, O⟩] else [])) := by rw [HL1]; exact HE
              rw [← HL1] at ho6 hcap8 hl6 ⊢
              have hl6' : L1.length ≤ LB.length + 1 := Nat.le_of_eq hl6
              have hl6'' : LB.length + 1 ≤ L1.length := Nat.le_of_eq hl6.symm
              clear hl6
              have HO1 : Hid (OwnRow 36 4 rowE w4.heap.size w6.heap.size w6 (.slice (some ⟨g1, 0, none⟩) L1.length c1) L1) := ho6.wide (by simp at *; omega) (Nat.le_refl _)
              have hrd1 := ho6.rd rowE_len
              have hg8 : g1 < w6.heap.size := hhi6
              have HBs := Lib.hid (Br.tr hb6')
              clear HL1 HLB ho6 hb6 hb6' HO hrd k0 k1 hx1 hcap6 hg6
              have k0 := z0
              have k1 := z1
              have hx1 := z2
              clear z0 z1 z2
              go_wp2_with fail
              refine (c_spec_l00In (T - D) f t _).mono ?_; rintro e w5 ⟨rfl, rfl⟩
              cases hi2 : inB (T - D) f t
              · rw [hi2, cond_false] at HE
                have HE2 : Hid (evS p B D f t (b + 1) = L1) := HE.out
                clear HE hrd1
                go_wp2
                exact ⟨⟨b + 1, g1, c1, hlt, by go_num, by rw [HE2.out], by rw [HE2.out]; exact HO1.out, by rw [HE2.out]; exact hcap8, HBs.out⟩, by simp [intOf]; omega⟩
              · rw [hi2, cond_true] at HE
                have HE2 : Hid (evS p B D f t (b + 1) = putE L1 ⟨T - D, false, (b : Int) % 2, O⟩) := HE.out
                clear HE
                have hwd8 : IntKind.i64.wrap (T - D) = T - D := IntWalk.i64_in _ (by omega)
                have hcl8 : L1.length < 100000 := by omega
                go_wp2_with fail
                go_region_held3 (fun w' => w'.cell? ⟨w.heap.size, 0, none⟩ = some (.int .i64 B) ∧ w'.cell? ⟨w.heap.size, 1, none⟩ = some (.int .i64 D) ∧ w'.cell? ⟨bu, ou + b, none⟩ = some (.int .i64 O))
                  (go_keep)
                  (first
                    | ((go_at_call 27; refine (c_spec_l02Mod b 2 _ (by omega) (by omega)).mono ?_; rintro e w5 ⟨rfl, rfl⟩))
                    | ((go_at_call 26; refine (c_spec_l26Put L1 ⟨T - D, false, (b : Int) % 2, O⟩ g1 c1 _ (hrd1.below ((Below.refl _ _).dr)) hcl8 hg8 hcap8).mono ?_; rintro e w8 ⟨u8, rfl, ho8, hb8⟩; have hb8' := below_drew hb8; have z0 := keepc hb8' k0; have z1 := keepc hb8' k1; have z2 := keepc hb8' hx1)))
                have hws := HBs.out.size
                have hsz8 := hb8'.size
                have hl8 := putE_len L1 ⟨T - D, false, (b : Int) % 2, O⟩
                obtain ⟨g8, c8, rfl, hc8, hlo8, hhi8⟩ := own_shape ho8 (own_some ho8 (by omega))
                have HZ : Hid (OwnRow 36 4 rowE w4.heap.size w8.heap.size w8 _ (putE L1 ⟨T - D, false, (b : Int) % 2, O⟩) ∧ Below w4.heap.size w4 w8) := ⟨ho8.wide (by simp at *; omega) (Nat.le_refl _), HBs.out.tr hb8'⟩
                clear ho8 hb8 hb8' hrd1 z0 z1 z2 hl8
                go_wp2
                exact ⟨⟨b + 1, g8, c8, hlt, by go_num, by rw [HE2.out], by rw [HE2.out]; exact HZ.out.1, by rw [HE2.out]; exact hc8, HZ.out.2⟩, by simp [intOf]; omega⟩
        · have hbe : b = LL := by omega
          subst hbe
          obtain ⟨HC, HP⟩ := ev_c3 HL.out hin' HN.out
          have hltI : ¬ (b : Int) ≤ (b : Int) - 1 := by omega
          have HE : Hid (EvAt w.heap.size wr (.slice (some ⟨g, 0, none⟩) (evS p B D f t b).length c) (evS p B D f t b)) := (ownrow_evAt ho).low (by omega)
          have BZ := B4.tr Br
          clear ho
          go_wp2
          exact bodyPost_ret (v := .tuple #[.slice (some ⟨g, 0, none⟩) (evS p B D f t b).length c, .int .i64 0]) (by simp [results, Tryd.results9, go_sem]) rfl ⟨_, by rw [HC.out], by rw [HP.out]; exact HE.out, BZ⟩
  · obtain ⟨HC, HP⟩ := ev_c1 t hL
    obtain ⟨C, HCC⟩ : ∃ C, Hid (frCode p B D 0 f = C) := ⟨_, Lib.hid rfl⟩
    rw [HCC.out] at hL HC
    go_enter Tryd.func9, Tryd.ntmps9
    go_wp2_with fail
    rw [← hW0]
    clear hW0
    refine (c_spec_l26Code p B D 0 f _ _ (HR.out.below B0)).mono ?_; rintro e w2 ⟨rfl, hb2⟩; rw [HCC.out]
    have tC : (C != 0) = true := by simpa using hL
    go_wp2
    exact bodyPost_ret (v := .tuple #[.slice none 0 0, .int .i64 C]) (by simp [results, Tryd.results9, go_sem]) rfl ⟨_, by rw [HC.out], Or.inl ⟨rfl, HP.out⟩, B0.tr hb2⟩
end Go.Proofs.YtgcmnpimkfmccaaDoor
