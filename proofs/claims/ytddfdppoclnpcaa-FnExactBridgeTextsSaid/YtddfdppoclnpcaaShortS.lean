/- Contract of spec.l10Short. -/
import Derived.Test.YtddfdppoclnpcaaShort
import Derived.Test.YtddfdppoclnpcaaFarP
namespace Go.Proofs.Ytddfdppoclnpcaa
open Go.ChangeShapes Go.WideShapes Go.ChangeAt Go.RowKit
set_option linter.unusedVariables false
set_option linter.unusedSimpArgs false
theorem RdI.same {lo hi : Nat} {a b : World} {v : Value} {xs : List Int} (h : RdI a v xs) (hs : Same lo hi a b) (hl : ∀ k, v.ownBlock = some k → lo ≤ k ∧ k < hi) : RdI b v xs := by
  obtain ⟨ad, cap, hv, hn, hc⟩ := h
  refine ⟨ad, cap, hv, hn, fun k hk => ?_⟩
  obtain ⟨bl, off, ha, hcell⟩ := hc k hk
  have hb := hl bl (by rw [hv, ha]; rfl)
  exact ⟨bl, off, ha, by rw [hs.cell hb.1 hb.2]; exact hcell⟩
theorem farL_back {n h b : Int} (hh : 1 ≤ h ∧ h ≤ 10) (hb : b ∈ maskL n h) : farL (maskL n h).length (backL (maskL n h) h) (idxI (maskL n h) b) = (maskL n h).map (fun y => farM h y b) := by
  apply List.ext_getElem
  · simp [farL]
  · intro i h1 h2
    have hi : i < (maskL n h).length := by simpa using h2
    have hmi : (maskL n h)[i] ∈ maskL n h := List.getElem_mem hi
    have hidx : idxI (maskL n h) (maskL n h)[i] = (i : Int) := by
      unfold idxI
      rw [idx_at (nodup_of_sorted (maskL_sorted n h)) i hi]
    have hd := dist_back hh hb hmi
    rw [hidx] at hd
    simp only [farL, List.getElem_map, List.getElem_range, hd]
    rfl
def backTo (X : List (Int × Int × Int)) (k : Nat) : List (Int × Int × Int) := (X.take k).map fun a => (a.2.2, (0 : Int), a.1)
theorem backTo_succ {X : List (Int × Int × Int)} {k : Nat} (hk : k < X.length) : backTo X (k + 1) = backTo X k ++ [(X[k].2.2, 0, X[k].1)] := by
  unfold backTo
  rw [take_snoc _ _ hk, List.map_append]; rfl
theorem backTo_len (X : List (Int × Int × Int)) (k : Nat) : (backTo X k).length ≤ X.length := by
  unfold backTo
  rw [List.length_map]
  exact List.length_take_le' _ _
theorem backTo_all (L : List Int) (h : Int) : backTo (arcsL L h) (arcsL L h).length = backL L h := by
  unfold backTo backL
  rw [List.take_length]
theorem mapFar_at {L : List Int} {h b x : Int} (hx : x ∈ L) : (L.map (fun y => farM h y b)).getD (idx L x) 0 = farM h x b := by
  have hl := idx_lt hx
  have hg := idx_get hx
  simp [List.getD, hl, hg]
set_option maxHeartbeats 8000000 in
set_option maxRecDepth 100000 in
theorem c_spec_l10Short (n h a b : Int) (w : World) (hh : 1 ≤ h ∧ h ≤ 10) (ha : a ∈ maskL n h) (hb : b ∈ maskL n h) :
    Calls Try.prog 94 #[.agg #[.int .i64 h, .int .i64 a], .agg #[.int .i64 h, .int .i64 b]] w fun e w' => ∃ v, e = .returned v ∧ OwnI1 w.heap.size w' v (shortL h a b) ∧ Below w.heap.size w w' := by
  obtain ⟨W0, hW0, k0, k1, k2, k3, B0⟩ := twoStates w 28 h a h b
  have f0 : W0.frozen? ⟨w.heap.size, 0, none⟩ = false := by rw [hW0]; go_simp
  have f1 : W0.frozen? ⟨w.heap.size, 1, none⟩ = false := by rw [hW0]; go_simp
  have hs0 : w.heap.size + 2 = W0.heap.size := by rw [hW0]; simp
  have HPA : Hid (popI a = n) := (mem_maskL.1 ha).2
  have haq : 0 ≤ a ∧ a < 1024 := mask_bd hh ha
  have hhb : 0 ≤ h ∧ h ≤ 10 := by omega
  have HFB := Lib.hid (fun x hx => farM_bd (n := n) (a := x) (b := b) hh hx hb)
  have HBD := Lib.hid (fun x => fun hx => mask_bd (n := n) (h := h) (m := x) hh hx)
  have HC := Lib.hid (fun x t => fun hx hc => next_mem (n := n) (h := h) (m := x) (t := t) hh hx hc)
  have HST := Lib.hid (fun x hx hne => shortL_step (n := n) (a := x) (b := b) hh hx hb hne)
  have HPK := Lib.hid (fun x hx hne => pick_not (n := n) (a := x) (b := b) hh hx hb hne)
  have HAL := Lib.hid ha
  have HBL := Lib.hid hb
  have HXB := Lib.hid (back_bd (arcs_bd (n := n) hh))
  have HFL : Hid (farL (maskL n h).length (backL (maskL n h) h) ((idx (maskL n h) b : Nat) : Int) = (maskL n h).map (fun y => farM h y b)) := farL_back hh hb
  have HSO := Lib.hid (maskL_sorted n h)
  have hlen := maskL_len n h hh
  have hXl := arcs_len' n h hh
  have hix := idx_lt hb
  have HFM : Hid ((farM h a b).toNat ≤ 1024) := by
    have := HFB.out a ha
    have := maskL_len n h hh
    unfold Hid
    omega
  clear ha hb
  go_enter Try.func94, Try.ntmps94
  go_wp2_with fail
  rw [← hW0]
  have HS0 := Lib.hid hs0
  clear hW0 hs0
  go_region_held3 (fun w' => w'.cell? ⟨w.heap.size, 0, none⟩ = some (.int .i64 h) ∧ w'.cell? ⟨w.heap.size, 1, none⟩ = some (.int .i64 a))
    (go_keep)
    (first
      | ((go_at_call 126; refine (c_spec_l08Count a _ haq).mono ?_; rintro e w2 ⟨rfl, rfl⟩; rw [HPA.out]))
      | ((go_at_call 125; refine (c_spec_l09Masks n h _ hhb).mono ?_; rintro e w3 ⟨v3, rfl, ho3, hb3⟩; have hb3' := below_drew hb3; have p0 := keepc hb3' k0; have p1 := keepc hb3' k1)))
  have p2 := keepc hb3' k2
  have p3 := keepc hb3' k3
  have g0 := frozenc hb3' k0 f0
  have g1 := frozenc hb3' k1 f1
  have hs3 := hb3'.size
  have hs0 := HS0.out
  have hlt3 : ∀ k, v3.ownBlock = some k → W0.heap.size ≤ k ∧ k < w3.heap.size := World.ownsRow.lt ho3
  have hrM := ho3.rd
  have B3 : Below w.heap.size w w3 := B0.tr hb3'
  have HMW := Lib.hid hrM
  obtain ⟨aM, capM, rfl, hlM, _⟩ := hrM
  have HML : Hid (∀ k, (Value.slice aM (maskL n h).length capM).ownBlock = some k → w.heap.size + 2 ≤ k ∧ k < w3.heap.size) := fun k hk => by
    have := hlt3 k hk
    omega
  clear k0 k1 k2 k3 f0 f1 hb3 hb3' ho3 hlt3
  go_wp2_with (go_at_call 127; refine (c_spec_l09Arcs n h _ _ hh HMW.out).mono ?_; rintro e w4 ⟨v4, rfl, ho4, hb4⟩; have q0 := keepc hb4 p0; have q1 := keepc hb4 p1; have hs4 := hb4.size; have hr4 := OwnRow.rd rowA_len ho4; obtain ⟨a4, cap4, rfl, hl4, hcell⟩ := hr4)
  have q2 := keepc hb4 p2
  have q3 := keepc hb4 p3
  have r0 := frozenc hb4 p0 g0
  have r1 := frozenc hb4 p1 g1
  have B4 : Below w.heap.size w w4 := B3.tr hb4
  have HMW4 := Lib.hid (HMW.out.below hb4)
  have hcell5 : ∀ k (hk : k < (arcsL (maskL n h) h).length), ∃ b off, a4 = some ⟨b, off, none⟩ ∧ b < w4.heap.size ∧ ∀ c u, (rowA (arcsL (maskL n h) h)[k])[c]? = some u → w4.cell? ⟨b, off + k * 3 + c, none⟩ = some u := fun k hk => by
    obtain ⟨b, off, ha, hc⟩ := hcell k hk
    refine ⟨b, off, ha, ?_, hc⟩
    subst ha
    exact (World.ownsRow.lt ho4.1 b rfl).2
  have HC5 := Lib.hid hcell5
  have HBA := Lib.hid (backTo_all (maskL n h) h)
  have hbb := backL_len (maskL n h) h
  have hout4 := (OwnRow.made (E := 145) (row := rowA) (sz := 3) (a := w4) (xs := []) rfl rfl (Nat.le_refl _)).tight
  clear hcell5 hcell ho4 hb4 p0 p1 p2 p3 g0 g1 HMW
  generalize arcsL (maskL n h) h = X at *
  go_wp2
  go_loopw [7, 8] (fun out i wr => ∃ k : Nat, k ≤ X.length ∧ i = .int .i64 k ∧ OwnA w4.heap.size wr.heap.size wr out (backTo X k) ∧ Below w4.heap.size w4 wr) (fun _ i _ => X.length - (intOf i).toNat)
  case atStart => exact ⟨0, by omega, rfl, by unfold backTo; simpa using hout4, by (repeat (first | (with_reducible assumption) | (with_reducible exact Below.refl _ _) | (with_reducible refine Below.setCell ?_ (by first | (simp; done) | (simp; omega)) _) | (with_reducible refine Below.al ?_ _) | (with_reducible refine Below.dr ?_) | (with_reducible refine Below.drN ?_ _) | (with_reducible refine Below.tr ?_ (by with_reducible assumption))))⟩
  case round =>
    obtain ⟨k, hk, rfl, hout, hbr⟩ := hrel
    have hbr1 := hbr.size
    by_cases hlt : k < X.length
    · obtain ⟨b2, o2, rfl, hb2, hx⟩ := HC5.out k hlt
      obtain ⟨⟨x0, x1, x2⟩, hxk⟩ : ∃ x, X[k] = x := ⟨_, rfl⟩
      have HY := Lib.hid (backTo_succ (X := X) hlt)
      unfold Hid at HY
      rw [hxk] at hx HY
      have HY := Lib.hid HY
      have y0 : wr.cell? ⟨b2, o2 + k * 3, none⟩ = some (.int .i64 x0) := by rw [hbr.cell (p := ⟨b2, o2 + k * 3, none⟩) hb2]; exact hx 0 _ rfl
      have y2 : wr.cell? ⟨b2, o2 + k * 3 + 2, none⟩ = some (.int .i64 x2) := by rw [hbr.cell (p := ⟨b2, o2 + k * 3 + 2, none⟩) hb2]; exact hx 2 _ rfl
      have hll : (backTo X k).length < 1000000000 := by have := backTo_len X k; omega
      have hin0 : (0 : Int) ≤ (k : Int) := Int.natCast_nonneg _
      have hin1 : (k : Int) < (X.length : Int) := by omega
      have hb2r : b2 < wr.heap.size := by omega
      have hub : u7.ownBlock ≠ some b2 := fun e => by have := (World.ownsRow.lt hout.1 b2 e).1; omega
      have hne1 : ¬ wr.heap.size = b2 := by omega
      clear hx hxk
      go_wp2_with fail
      go_region_held3 (fun w' => w'.cell? ⟨b2, o2 + k * 3, none⟩ = some (.int .i64 x0) ∧ w'.cell? ⟨b2, o2 + k * 3 + 2, none⟩ = some (.int .i64 x2))
        (go_keep)
        (first
          | ((refine step_push_row (row := rowA) rfl _ _ _ _ rfl Try.underlying142 (.agg #[.int .i64 0, .int .i64 0, .int .i64 0]) 24 infoA rfl (by decide) (by decide) rowA_len w4.heap.size wr.heap.size wr.heap.size u7 (backTo X k) (x2, 0, x0) #[.int .i64 x2, .int .i64 0, .int .i64 x0] _ rfl (rowA_one _) rfl rfl (heap_alloc_new wr _) (hout.al _) hll ?_ ?_; exact Nat.le_trans hbr1 (Nat.le_of_lt (Nat.lt_of_lt_of_le (Nat.lt_succ_self _) (Nat.le_of_eq (World.size_alloc wr _).symm))); intro v7 w7 hown7 hg7 hat7 hs7; have r1 := grown_cell hg7 _ _ _ y0 hub; have r2 := grown_cell hg7 _ _ _ y2 hub)))
      have hBa : Below w4.heap.size w4 (wr.alloc (Obj.cells #[Value.int IntKind.i64 x2, Value.int IntKind.i64 0, Value.int IntKind.i64 x0] 145)).drew := by (repeat (first | (with_reducible assumption) | (with_reducible exact Below.refl _ _) | (with_reducible refine Below.setCell ?_ (by first | (simp; done) | (simp; omega)) _) | (with_reducible refine Below.al ?_ _) | (with_reducible refine Below.dr ?_) | (with_reducible refine Below.drN ?_ _) | (with_reducible refine Below.tr ?_ (by with_reducible assumption))))
      go_wp2
      go_roundw
      case rel => exact ⟨k + 1, by omega, by go_num, by rw [HY.out]; exact hown7, hBa.grown hg7 hBa.size (fun q hq => (World.ownsRow.lt hout.1 q hq).1)⟩
      case measure => simp [intOf]; omega
    · obtain rfl : k = X.length := by omega
      rw [HBA.out] at hout
      have p0 := keepc hbr q0
      have p1 := keepc hbr q1
      have p2 := keepc hbr q2
      have p3 := keepc hbr q3
      have g0 := frozenc hbr q0 r0
      have g1 := frozenc hbr q1 r1
      have HMW5 := Lib.hid (HMW4.out.below hbr)
      have hr5 := OwnRow.rd rowA_len hout
      go_wp2_with (first
        | (go_at_call 129; refine (c_spec_l09Find (maskL n h) b _ _ HMW5.out HSO.out HBL.out (by omega)).mono ?_; rintro e w5 ⟨rfl, rfl⟩)
        | (go_at_call 128; refine (c_spec_l09Far (maskL n h) (backL (maskL n h) h) ((idx (maskL n h) b : Nat) : Int) _ _ _ HMW5.out hr5 HXB.out (by omega) (by omega) (by omega)).mono ?_; rintro e w6 ⟨v6, rfl, ho6, hb6⟩; rw [HFL.out] at ho6))
      have hs6 := hb6.size
      have p0 := keepc hb6 p0
      have p1 := keepc hb6 p1
      have p2 := keepc hb6 p2
      have p3 := keepc hb6 p3
      have g0 := frozenc hb6 (keepc hbr q0) g0
      have g1 := frozenc hb6 (keepc hbr q1) g1
      have HMW6 := Lib.hid (HMW5.out.below hb6)
      have B6 : Below w.heap.size w w6 := (B4.tr hbr).tr hb6
      have HFLn : Hid (((maskL n h).map (fun y => farM h y b)).length = (maskL n h).length) := List.length_map _
      have HFAT := Lib.hid (fun x hx => mapFar_at (L := maskL n h) (h := h) (b := b) (x := x) hx)
      have HFR6 : Hid (RdI w6 v6 ((maskL n h).map (fun y => farM h y b))) := ho6.rd
      have HFL6 : Hid (∀ k, v6.ownBlock = some k → w.heap.size + 1 ≤ k ∧ k < w6.heap.size) := fun k hk => by have := World.ownsRow.lt ho6 k hk; omega
      have HML6 : Hid (∀ k, (Value.slice aM (maskL n h).length capM).ownBlock = some k → w.heap.size + 1 ≤ k ∧ k < w6.heap.size) := fun k hk => by have := HML.out k hk; omega
      have HIX := Lib.hid (fun x hx => idx_lt (L := maskL n h) (m := x) hx)
      have hO6 : OwnI1 w6.heap.size (w6.alloc (Obj.cells #[] 2)) (.slice (some ⟨w6.heap.size, 0, none⟩) 0 0) [] := OwnI.made rfl rfl (Nat.le_refl _)
      have C0 := al_c (.cells #[] 2) p0
      have C1 := al_c (.cells #[] 2) p1
      have F0 := al_f (.cells #[] 2) p0 g0
      have F1 := al_f (.cells #[] 2) p1 g1
      have hsm6 : Same (w.heap.size + 1) w6.heap.size w6 (w6.alloc (Obj.cells #[] 2)) := (Same.refl (Nat.le_refl _)).below ((Below.refl _ _).al _)
      have hz6 : w.heap.size + 2 ≤ w6.heap.size := by omega
      clear hb6 hbr hbr1 hs4 hs3 ho6 q0 q1 q2 q3 r0 r1 HMW5 hr5 hout HC5 hout4 HMW4 hk hlt hXl hbb HXB HFL HBA hix
      generalize (maskL n h).map (fun y => farM h y b) = F at *
      go_loopg [10] (farM h a b).toNat (fun g out wr => ∃ (O : List Int) (x : Int), g = (farM h x b).toNat ∧ Hid (O ++ shortL h x b = shortL h a b) ∧ Hid (x ∈ maskL n h) ∧ O.length + g ≤ 1024 ∧ OwnI1 w6.heap.size wr out O ∧
        wr.cell? ⟨w.heap.size, 0, none⟩ = some (.int .i64 h) ∧ wr.cell? ⟨w.heap.size, 1, none⟩ = some (.int .i64 x) ∧ wr.frozen? ⟨w.heap.size, 0, none⟩ = false ∧ wr.frozen? ⟨w.heap.size, 1, none⟩ = false ∧ Same (w.heap.size + 1) w6.heap.size w6 wr ∧ Below w.heap.size w wr)
      case atStart => exact ⟨[], a, rfl, rfl, HAL, by have := HFM.out; simpa using this, hO6, C0, C1, F0, F1, hsm6, B6.al _⟩
      case round =>
        clear hO6 C0 C1 F0 F1 p0 p1 g0 g1 hsm6
        obtain ⟨O, x, hgk, HO, HX, hOl, hout, C0, C1, F0, F1, hsm, hbr⟩ := hrel
        have hsr := hsm.1
        have C2 := (hsm.cell (bl := w.heap.size + 1) (o := 0) (by omega) (by omega)).trans p2
        have C3 := (hsm.cell (bl := w.heap.size + 1) (o := 1) (by omega) (by omega)).trans p3
        by_cases hxb : x = b
        · subst hxb
          have hne : (x != x) = false := by simp
          have HE : Hid (O = shortL h a x) := by unfold Hid; rw [← HO.out, shortL_self, List.append_nil]
          go_wp2
          go_ret
          exact ⟨_, rfl, by rw [← HE.out]; exact hout.base (by omega), hbr⟩
        · have hne : (x != b) = true := by simp [hxb]
          have hxq := HBD.out x HX.out
          have hfb := HFB.out x HX.out
          have hTl : (throwsL h x).length ≤ 11 := by have := throwsTo_len h x (h + 1).toNat; unfold throwsL; omega
          have HT := Lib.hid (fun t => fun ht => (mem_throwsL (m := x) (t := t) (show 0 ≤ h by omega)).1 ht)
          obtain ⟨wo, rfl⟩ : ∃ wo : World, wo = wr := ⟨_, rfl⟩
          have hzw : w.heap.size < wo.heap.size := by omega
          go_wp2_with fail
          refine (c_spec_l08Throws h x _ hhb hxq).mono ?_; rintro e w7 ⟨tv, rfl, hot, hb7⟩
          have hlt7 := World.ownsRow.lt hot
          obtain ⟨att, capt, rfl, hlT, hcT⟩ := hot.rd
          have G0 := frozenc hb7 C0 F0
          have G1 := frozenc hb7 C1 F1
          have D0 := keepc hb7 C0
          have D1 := keepc hb7 C1
          have hs7 := hb7.size
          have hout7 := hout.below hb7
          have hsm7 := hsm.below hb7
          have hB7 : Below w.heap.size w w7 := hbr.tr hb7
          have HNO := Lib.hid (HPK.out x HX.out hxb)
          have HSTx := Lib.hid (HST.out x HX.out hxb)
          have HPT := Lib.hid (fun j hj hno hy => pick_at (T := throwsL h x) (p := fun t => farM h (nextM x t) b == farM h x b - 1) (j := j) hj hno hy)
          have HPD : Hid (pickT h b x = ((throwsL h x).find? fun t => farM h (nextM x t) b == farM h x b - 1).getD 0) := rfl
          have HMW7 := Lib.hid (RdI.same HMW6.out hsm7 HML6.out)
          obtain ⟨aF, capF, hvF, hlF, hcF⟩ := RdI.same HFR6.out hsm7 HFL6.out
          subst hvF
          have hxi := HIX.out x HX.out
          obtain ⟨bF, oF, rfl, hcx⟩ := hcF (idx (maskL n h) x) (by rw [HFLn.out]; exact hxi)
          rw [HFAT.out x HX.out] at hcx
          have HFI := Lib.hid (HFL6.out bF rfl)
          have HCF := Lib.hid hcF
          clear hb7 hout C0 C1 C2 C3 F0 F1 hot hcF
          generalize throwsL h x = T at *
          obtain ⟨ix, Hix⟩ : ∃ ix : Nat, Hid (idx (maskL n h) x = ix) := ⟨_, rfl⟩
          rw [Hix.out] at hxi hcx
          have hix0 : (0 : Int) ≤ (ix : Int) := Int.natCast_nonneg _
          have hix1 : (ix : Int) < (F.length : Int) := by have := HFLn.out; omega
          go_wp2_with (go_at_call 129; refine (c_spec_l09Find (maskL n h) x _ _ HMW7.out HSO.out HX.out (by omega)).mono ?_; rintro e w8 ⟨rfl, rfl⟩; rw [Hix.out])
          go_loopw [10, 13] (fun v i wr => ∃ j : Nat, j ≤ T.length ∧ i = .int .i64 j ∧ OwnI1 w6.heap.size wr v O ∧ Hid (∀ t ∈ T.take j, (farM h (nextM x t) b == farM h x b - 1) = false) ∧ Below w7.heap.size w7 wr) (fun _ i _ => T.length - (intOf i).toNat)
          case atStart => exact ⟨0, by omega, rfl, hout7, fun t ht => by simp at ht, Below.refl _ _⟩
          case round =>
            clear hout7 hcx
            obtain ⟨j, hj, rfl, hout8, HNJ, hb8⟩ := hrel
            have hs8 := hb8.size
            by_cases hjlt : j < T.length
            · obtain ⟨b2, o2, rfl, hy⟩ := hcT j hjlt
              have hb2r := hlt7 b2 rfl
              have hy' : wr.cell? ⟨b2, o2 + j, none⟩ = some (.int .i64 (T.getD j 0)) := by rw [hb8.cell (p := ⟨b2, o2 + j, none⟩) hb2r.2]; exact hy
              have E0 := keepc hb8 D0
              have E1 := keepc hb8 D1
              have htm := HT.out _ (getD_mem hjlt)
              have hnx := HC.out x (T.getD j 0) HX.out htm.2
              have htb := htm.1
              have hfn := HFB.out _ hnx
              have hxj := HIX.out _ hnx
              obtain ⟨bF', oF', heF, hcy⟩ := HCF.out (idx (maskL n h) (nextM x (T.getD j 0))) (by have := HFLn.out; omega)
              cases heF
              rw [HFAT.out _ hnx] at hcy
              have HNX := Lib.hid hnx
              have HPJ := Lib.hid (HPT.out j hjlt HNJ.out)
              have HTK : Hid (T.take (j + 1) = T.take j ++ [T.getD j 0]) := by
                unfold Hid
                rw [take_snoc _ _ hjlt]; simp [List.getD, hjlt]
              obtain ⟨t, Ht⟩ : ∃ t, Hid (T.getD j 0 = t) := ⟨_, rfl⟩
              rw [Ht.out] at hy' htb hfn HNX HPJ HTK hcy hxj
              have HMW8 := Lib.hid (HMW7.out.below hb8)
              have HOW := Lib.hid (fun k hk => World.ownsRow.lt hout8 k hk)
              have hcy' := keepc hb8 hcy
              obtain ⟨iy, Hiy⟩ : ∃ iy : Nat, Hid (idx (maskL n h) (nextM x t) = iy) := ⟨_, rfl⟩
              rw [Hiy.out] at hxj hcy'
              have hiy0 : (0 : Int) ≤ (iy : Int) := Int.natCast_nonneg _
              have hiy1 : (iy : Int) < (F.length : Int) := by have := HFLn.out; omega
              have hin0 : (0 : Int) ≤ (j : Int) := Int.natCast_nonneg _
              have hin1 : (j : Int) < (T.length : Int) := by omega
              obtain ⟨wi, rfl⟩ : ∃ wi : World, wi = wr := ⟨_, rfl⟩
              have hb2s : b2 < wi.heap.size := by omega
              have hwos : w.heap.size < wi.heap.size := by omega
              have hne1 : ¬ wi.heap.size = w.heap.size := by omega
              have hne2 : ¬ wi.heap.size = b2 := by omega
              have hne3 : ¬ b2 = w.heap.size := by omega
              clear hy htm hnx hcT HT hcy
              go_wp2_with fail
              go_region_held3 (fun w' => w'.cell? ⟨w.heap.size, 0, none⟩ = some (.int .i64 h) ∧ w'.cell? ⟨w.heap.size, 1, none⟩ = some (.int .i64 x) ∧ w'.cell? ⟨b2, o2 + j, none⟩ = some (.int .i64 t))
                (go_keep)
                ((go_at_call 87; refine (c_spec_l08Next h x t _ hxq (by omega)).mono ?_; rintro e w9 ⟨rfl, hb9⟩; first | (have hb9' := below_new hb9; obtain ⟨hc9, _⟩ := bcell hb9'; have hz9 : wi.heap.size < w9.heap.size := new_lt hb9; obtain ⟨n0, f0⟩ := new_cell hb9 0 _ rfl; obtain ⟨n1, f1⟩ := new_cell hb9 1 _ rfl) | (have hb9' := below_drew hb9; obtain ⟨hc9, _⟩ := bcell hb9'; have hz9 := hb9'.size)))
              go_wp2_with fail
              have N0 : (w9.alloc (Obj.cells #[Value.int IntKind.i64 h, Value.int IntKind.i64 (nextM x t)] 28)).cell? ⟨w9.heap.size, 0, none⟩ = some (.int .i64 h) := World.cell?_alloc_at _ _ _ _ rfl
              have N1 : (w9.alloc (Obj.cells #[Value.int IntKind.i64 h, Value.int IntKind.i64 (nextM x t)] 28)).cell? ⟨w9.heap.size, 1, none⟩ = some (.int .i64 (nextM x t)) := World.cell?_alloc_at _ _ _ _ rfl
              have hB9 : Below wi.heap.size wi (w9.alloc (Obj.cells #[Value.int IntKind.i64 h, Value.int IntKind.i64 (nextM x t)] 28)) := hb9'.al _
              have hnb : wi.heap.size ≤ w9.heap.size := hz9
              generalize (w9.alloc (Obj.cells #[Value.int IntKind.i64 h, Value.int IntKind.i64 (nextM x t)] 28)) = w10 at *
              generalize w9.heap.size = nb at *
              rotate_left
              go_wp2_with fail
              obtain ⟨N0, N1, -, hg2⟩ := set2 w9 wi.heap.size (.int .i64 h) (.int .i64 (nextM x t)) _ _ n0 n1
              have hB9 : Below wi.heap.size wi ((w9.setCell ⟨wi.heap.size, 0, none⟩ (Value.int IntKind.i64 h)).setCell ⟨wi.heap.size, 1, none⟩ (Value.int IntKind.i64 (nextM x t))) := (hb9'.setCell (Nat.le_refl _) _).setCell (Nat.le_refl _) _
              generalize ((w9.setCell ⟨wi.heap.size, 0, none⟩ (Value.int IntKind.i64 h)).setCell ⟨wi.heap.size, 1, none⟩ (Value.int IntKind.i64 (nextM x t))) = w10 at *
              obtain ⟨nb, hnbe⟩ : ∃ nb, Hid (nb = wi.heap.size) := ⟨_, rfl⟩
              rw [← hnbe.out] at N0 N1 ⊢
              have hnb : wi.heap.size ≤ nb := Nat.le_of_eq hnbe.out.symm
              rotate_left
              all_goals
                refine (c_spec_l09Find (maskL n h) (nextM x t) _ _ (HMW8.out.below hB9) HSO.out HNX.out (by omega)).mono ?_; rintro e w11 ⟨rfl, rfl⟩; rw [Hiy.out]
                have hs10 := hB9.size
                have hnlt : nb < w10.heap.size := World.block_lt_of_cell? _ _ N0
                have hcz := keepc hB9 hcy'
                have hyz := keepc hB9 hy'
                have P0 := keepc hB9 E0
                have P1 := keepc hB9 E1
                have S0 := frozenc hB9 E0 (frozenc hb8 D0 G0)
                have S1 := frozenc hB9 E1 (frozenc hb8 D1 G1)
                have hzz : w.heap.size < w10.heap.size := by omega
                clear hcy' hy'
                by_cases hok : farM h (nextM x t) b = farM h x b - 1
                · go_wp2_with (at_builtin; refine push_int_at rfl _ _ _ _ rfl Try.underlying24 infoI w6.heap.size _ _ _ w10 rfl rfl (by exact hout8.below hB9) (by omega) (by omega) ?_; intro v12 w12 ho12 hg12 hat12 hs12
                               have R0 := grown_c hg12 P0 (fun e => by have := (HOW.out _ e).1; omega)
                               have R1 := grown_c hg12 P1 (fun e => by have := (HOW.out _ e).1; omega)
                               have T0 := grown_f hg12 P0 S0 (fun e => by have := (HOW.out _ e).1; omega)
                               have T1 := grown_f hg12 P1 S1 (fun e => by have := (HOW.out _ e).1; omega)
                               have M0 := grown_c hg12 N0 (fun e => by have := (HOW.out _ e).2; omega)
                               have M1 := grown_c hg12 N1 (fun e => by have := (HOW.out _ e).2; omega))
                  obtain ⟨X0, X1, XF, hg13⟩ := set2 w12 w.heap.size (.int .i64 h) (.int .i64 (nextM x t)) _ _ R0 R1
                  have hs12' := hg12.size
                  have hs13 := hg13.size
                  have hsm12 := ((hsm7.below hb8).below hB9).grown hg12 (fun q hq => Or.inr (HOW.out q hq).1)
                  have hsm13 := hsm12.grown hg13 (fun q hq => by cases hq; left; omega)
                  have B12 : Below w.heap.size w w12 := ((hB7.tr hb8).tr hB9).grown hg12 (by omega) (fun q hq => by have := (HOW.out q hq).1; omega)
                  have B13 := B12.grown hg13 (by omega) (fun q hq => by cases hq; omega)
                  have hpt : pickT h b x = t := by rw [HPD.out, HPJ.out (by simp [hok])]; rfl
                  have HO8 : Hid ((O ++ [t]) ++ shortL h (nextM x t) b = shortL h a b) := by
                    unfold Hid
                    have h1 := HSTx.out
                    rw [hpt] at h1
                    rw [List.append_assoc, ← HO.out, h1]; rfl
                  have ho13 := (ho12.setBelow (p := ⟨w.heap.size, 0, none⟩) (show w.heap.size < w6.heap.size by omega) (.int .i64 h)).setBelow (p := ⟨w.heap.size, 1, none⟩) (show w.heap.size < w6.heap.size by omega) (.int .i64 (nextM x t))
                  go_roundg (gk - 1)
                  case measure => omega
                  case rel => exact ⟨O ++ [t], nextM x t, by omega, HO8, HNX, by rw [List.length_append]; simp only [List.length_singleton]; omega, ho13, X0, X1, by rw [XF]; exact T0, by rw [XF]; exact T1, hsm13, B13⟩
                · have hok2 : (farM h (nextM x t) b == farM h x b - 1) = false := by simp [hok]
                  go_wp2
                  go_roundw
                  case rel => exact ⟨j + 1, by omega, by go_num, hout8.below hB9, by
                    rw [HTK.out]
                    intro s hs
                    rcases List.mem_append.1 hs with hs | hs
                    · exact HNJ.out s hs
                    · rw [List.mem_singleton.1 hs]; exact hok2, hb8.tr hB9⟩
                  case measure => simp [intOf]; omega
            · exact (HNO.out (by rw [List.take_of_length_le (by omega)] at HNJ; exact HNJ.out)).elim
end Go.Proofs.Ytddfdppoclnpcaa
