/- Contracts of TableLines. -/
import Derived.Test.YtjokodlappeapaaDoorPtxtI
import Derived.Test.YtjokodlappeapaaDoorTab5
import Derived.Test.YtjokodlappeapaaDoorLinT
namespace Go.Proofs.YtjokodlappeapaaDoor
open Go.ChangeShapes Go.WideShapes Go.ChangeAt Go.RowKit
set_option linter.unusedVariables false
set_option linter.unusedSimpArgs false
theorem tabL_len (X : List (List Int)) (h : Int) : (tabL X h).length = X.length := by
  unfold tabL amongL
  rw [amongTo_len, fstL_len]
theorem tabL_row {X : List (List Int)} {h : Int} (i : Nat) (hi : i < X.length) : (tabL X h).getD i [] = (fstL X h).map fun t => farM h ((fstL X h).getD i 0) t := by
  unfold tabL amongL
  rw [amongTo_at (by rw [fstL_len]; exact hi), rowTo_full]
theorem tabL_rowlen {X : List (List Int)} {h : Int} (i : Nat) (hi : i < X.length) : ((tabL X h).getD i []).length = X.length := by
  rw [tabL_row i hi, List.length_map, fstL_len]
theorem tabD_row {X : List (List Int)} {h : Int} (i j : Nat) (hi : i < X.length) (hj : j < X.length) : ((tabL X h).getD i []).getD j 0 = tabD X h i j := by
  have hl := fstL_len X h
  rw [tabL_row i hi]
  simp [tabD, List.getD, show j < (fstL X h).length by omega]
theorem tabL_bd {X : List (List Int)} {h : Int} (hc : tabC X h = 0) (i j : Nat) (hi : i < X.length) (hj : j < X.length) : 0 ≤ ((tabL X h).getD i []).getD j 0 ∧ ((tabL X h).getD i []).getD j 0 ≤ 1024 := by
  have h1 := tab_far hc i j hi hj
  have hl := fstL_len X h
  rw [tabL_row i hi]
  have e : ((fstL X h).map fun t => farM h ((fstL X h).getD i 0) t).getD j 0 = farM h ((fstL X h).getD i 0) ((fstL X h).getD j 0) := by
    simp [List.getD, show j < (fstL X h).length by omega]
  rw [e]; exact h1
/-- a line of a table: its first k numbers -/
def lnTo (P : ByteArray) (row : List Int) (k : Nat) : ByteArray := (row.take k).foldl (fun s n => s ++ (⟨#[32]⟩ ++ decT n)) P
theorem lnTo_succ (P : ByteArray) (row : List Int) (k : Nat) (hk : k < row.length) : lnTo P row (k + 1) = lnTo P row k ++ (⟨#[32]⟩ ++ decT (row.getD k 0)) := by
  unfold lnTo
  rw [List.take_succ_eq_append_getElem hk, List.foldl_append]
  simp [List.getD, hk]
theorem lnTo_size (P : ByteArray) (row : List Int) (hP : P.size ≤ 13) (hrow : ∀ k, k < row.length → inI (row.getD k 0)) (k : Nat) (hk : k ≤ row.length) : (lnTo P row k).size ≤ 13 + 21 * k := by
  induction k with
  | zero => show P.size ≤ _; omega
  | succ k ih =>
    rw [lnTo_succ P row k (by omega), ByteArray.size_append, ByteArray.size_append]
    have h1 := ih (by omega)
    have h2 := decT_size (hrow k (by omega))
    show _ + (1 + _) ≤ _
    omega
noncomputable def tlAt (X : List (List Int)) (h : Int) (i : Nat) : ByteArray := lnTo (hexT (X.getD i []) ++ ⟨#[58]⟩) ((tabL X h).getD i []) X.length
noncomputable def tlTo (X : List (List Int)) (h : Int) (k : Nat) : List ByteArray := (List.range k).map (tlAt X h)
noncomputable def tlL (X : List (List Int)) (h : Int) : List ByteArray := if tabC X h = 0 then tlTo X h X.length else []
theorem tlTo_succ (X : List (List Int)) (h : Int) (k : Nat) : tlTo X h (k + 1) = tlTo X h k ++ [tlAt X h k] := by simp [tlTo, List.range_succ]
theorem tlTo_len (X : List (List Int)) (h : Int) (k : Nat) : (tlTo X h k).length = k := by simp [tlTo]
set_option maxHeartbeats 4000000 in
set_option maxRecDepth 100000 in
theorem c_impl_TableLines (X : List (List Int)) (h : Int) (v : Value) (w : World) (hr : RdG w v X) (hT : Tab w) :
    Calls Tryd.prog 34 #[v, .int .i64 h] w fun e w' => ∃ r, e = .returned (.tuple #[r, .int .i64 (tabC X h)]) ∧ OwnT w.heap.size w'.heap.size w' r (tlL X h) ∧ Below w.heap.size w w' := by
  have HR := Lib.hid hr
  have hr' := hr
  obtain ⟨a1, cap1, rfl, hl1, hc1⟩ := hr'
  clear hr
  cases hc : (tabC X h != 0)
  · have hc0 : tabC X h = 0 := by simpa using hc
    have HX : Hid (tlL X h = tlTo X h X.length) := by unfold Hid tlL; rw [if_pos hc0]
    have hl8 := (tab_ok hc0).2.1
    have HC := Lib.hid hc0
    have HOK := Lib.hid (tab_ok hc0).2.2
    have HTL := Lib.hid (fun k => tlTo_len X h k)
    have HTS := Lib.hid (fun k => tlTo_succ X h k)
    have HBD := Lib.hid (tabL_bd hc0)
    have HRL := Lib.hid (fun i hi => tabL_rowlen (X := X) (h := h) i hi)
    have HTA : Hid (∀ i, tlAt X h i = lnTo (hexT (X.getD i []) ++ ⟨#[58]⟩) ((tabL X h).getD i []) X.length) := fun _ => rfl
    have HL := Lib.hid (fun k hk => hc1 k hk)
    have htl := tabL_len X h
    clear hc0 hc1
    go_enter Tryd.func34, Tryd.ntmps34
    go_wp2_with fail
    refine (c_impl_tableCode X h _ _ HR.out).mono ?_; rintro e w1 ⟨rfl, hb1⟩
    go_wp2_with fail
    refine (c_impl_table X h _ _ (HR.out.below (hb1.al _)) HC.out).mono ?_; rintro e w2 ⟨u2, rfl, ho2, hb2⟩
    have hr2 := ho2.rd
    obtain ⟨a2, cap2, rfl, hl2, hc2⟩ := hr2
    rw [htl] at hl2 hc2 ⊢
    rw [htl, World.size_alloc] at ho2
    have B1 := hb1.al (Obj.cells #[] 9)
    have B2 := B1.tr hb2
    have om : OwnT w.heap.size (w1.heap.size + 1) (w1.alloc (Obj.cells #[] 9)) (.slice (some ⟨w1.heap.size, 0, none⟩) 0 0) (tlTo X h 0) := OwnRow.made rfl rfl hb1.size
    have om2 := (om.below hb2).tight
    clear hc2 om
    go_wp2
    have hs2 := hb2.size
    rw [World.size_alloc] at hs2
    have hs1 := hb1.size
    go_loopw [7, 24] (fun o i wr => ∃ k : Nat, k ≤ X.length ∧ i = .int .i64 k ∧ OwnT w.heap.size wr.heap.size wr o (tlTo X h k) ∧ Below w.heap.size w wr ∧ OwnGT (w1.heap.size + 1) w2.heap.size wr (.slice a2 X.length cap2) (tabL X h) ∧ (∀ q, o.ownBlock = some q → q < w1.heap.size + 1 ∨ w2.heap.size ≤ q) ∧ w2.heap.size ≤ wr.heap.size) (fun _ i _ => X.length - (intOf i).toNat)
    case atStart => exact ⟨0, by omega, rfl, om2, B2, ho2, fun q hq => by simp only [Value.ownBlock, Option.some.injEq] at hq; omega, Nat.le_refl _⟩
    case round =>
      obtain ⟨k, hk, rfl, hout, hb, htb, hoff, hsz⟩ := hrel
      have hbs := hb.size
      by_cases hlt : k < X.length
      · obtain ⟨atb, captb, hetb, hcell⟩ := tab_rd htb.rd
        cases hetb
        obtain ⟨b2, o2, bi, oi, ci, ha2, hrow, hent⟩ := hcell k hlt
        subst ha2
        obtain ⟨b1, o1, u1, rfl, hx1, hu1⟩ := HL.out k hlt
        have y1 := keepc hb hx1
        have HU := Lib.hid (hu1.below hb)
        have HT := Lib.hid (HTS.out k)
        have hkl : (tlTo X h k).length < 1000000000 := by have := HTL.out k; omega
        obtain ⟨hvp, -, -⟩ := HOK.out k hlt
        have hn := okThrows_iff.1 (valid_ok hvp)
        have hPs : (hexT (X.getD k [])).size ≤ 12 := by rw [hexT_size]; omega
        have HVP := Lib.hid hvp
        have HTk := Lib.hid (HTA.out k)
        have HE := Lib.hid (fun j hj => tabD_row (X := X) (h := h) k j hlt hj)
        have HBk := Lib.hid (fun j hj => HBD.out k j hlt hj)
        have HRk := Lib.hid (HRL.out k hlt)
        have HEN := Lib.hid hent
        have htbk := tab_below hT hb
        clear hx1 hu1 hcell hent hvp hn
        obtain ⟨P, HP⟩ : ∃ P, Hid (hexT (X.getD k []) = P) := ⟨_, Lib.hid rfl⟩
        obtain ⟨p, Hp⟩ : ∃ p, Hid (X.getD k [] = p) := ⟨_, Lib.hid rfl⟩
        obtain ⟨R, HRR⟩ : ∃ R, Hid ((tabL X h).getD k [] = R) := ⟨_, Lib.hid rfl⟩
        rw [HP.out] at HTk hPs
        rw [Hp.out] at HP HVP HU
        rw [HRR.out] at HTk HE HBk HRk
        have s1 : ¬ 9223372036854775807 < P.size + 1 := by omega
        have HSZ := Lib.hid (fun j hj => lnTo_size (P ++ ⟨#[58]⟩) R (by rw [ByteArray.size_append]; show _ + 1 ≤ _; omega) (fun j hj => by have := HBk.out j (by rw [HRk.out] at hj; exact hj); unfold inI; omega) j hj)
        have HSC := Lib.hid (fun j hj => lnTo_succ (P ++ ⟨#[58]⟩) R j hj)
        have HL0 : Hid (lnTo (P ++ ⟨#[58]⟩) R 0 = P ++ ⟨#[58]⟩) := rfl
        obtain ⟨wo, rfl⟩ : ∃ wo : World, wo = wr := ⟨_, rfl⟩
        go_wp2_with fail
        refine (c_patI p P HP _ _ HU.out HVP).mono ?_; rintro e w3 ⟨rfl, hb3⟩
        have hs3 := hb3.size
        go_wp2
        go_loopw [10, 37] (fun s i wr => ∃ j : Nat, j ≤ X.length ∧ i = .int .i64 j ∧ s = .string (lnTo (P ++ ⟨#[58]⟩) R j) ∧ Below wo.heap.size wo wr) (fun _ i _ => X.length - (intOf i).toNat)
        case atStart => exact ⟨0, by omega, rfl, by rw [HL0.out], hb3⟩
        case round =>
          obtain ⟨j, hj, rfl, rfl, hbq⟩ := hrel
          have hsq := hbq.size
          by_cases hjl : j < X.length
          · have z := keepc hbq (HEN.out j hjl)
            have hbn := HBk.out j hjl
            have hE := HE.out j hjl
            have HSj := Lib.hid (HSC.out j (by rw [HRk.out]; exact hjl))
            have hsz2 := HSZ.out j (by rw [HRk.out]; exact hj)
            rw [← hE] at z
            obtain ⟨n, Hn⟩ : ∃ n, Hid (R.getD j 0 = n) := ⟨_, Lib.hid rfl⟩
            rw [Hn.out] at z hbn HSj
            have hin : inI n := by unfold inI; omega
            have hd1 := decT_size hin
            obtain ⟨D, HD⟩ : ∃ D, Hid (decT n = D) := ⟨_, Lib.hid rfl⟩
            obtain ⟨S, HS⟩ : ∃ S, Hid (lnTo (P ++ ⟨#[58]⟩) R j = S) := ⟨_, Lib.hid rfl⟩
            rw [HD.out] at hd1 HSj
            rw [HS.out] at HSj hsz2 ⊢
            have s2 : ¬ 9223372036854775807 < 1 + D.size := by omega
            have s3 : ¬ 9223372036854775807 < S.size + (1 + D.size) := by omega
            have htq := tab_below htbk hbq
            clear hE
            go_wp2_with fail
            refine (c_decI n D HD _ hin htq).mono ?_; rintro e w4 ⟨rfl, hb4⟩
            go_wp2
            go_roundw
            case rel => exact ⟨j + 1, by omega, by go_num, by rw [HSj.out], hbq.tr hb4⟩
            case measure => simp [intOf]; omega
          · obtain rfl : j = X.length := by omega
            have hout6 := hout.below hbq
            have htb6 := OwnG.below htb hbq
            have hlo := World.ownsRow.lt hout.1
            rw [← HTk.out]
            obtain ⟨S, HS⟩ : ∃ S, Hid (tlAt X h k = S) := ⟨_, Lib.hid rfl⟩
            rw [HS.out] at HT ⊢
            have hBq := hb.tr hbq
            go_wp2_with (at_builtin; refine push_row_at (row := rowT) rfl _ _ _ _ rfl Tryd.underlying22 (.string ⟨#[]⟩) 16 infoTx rfl (by decide) (by decide) rowT_len w.heap.size _ _ _ S #[.string S] _ rfl (rowT_ones _) rfl rfl (by exact hout6) hkl (by omega) ?_; intro v' w6 hown6 hbel6 hs6 hg6 hat6)
            go_roundw
            case rel => exact ⟨k + 1, by omega, by go_num, by rw [HT.out]; exact hown6, hBq.grown hg6 hBq.size (fun q hq => (hlo q hq).1), OwnG.grown htb6 hg6 hoff, fun q hq => by
              rcases hat6 with he | he
              · exact hoff q (he.symm.trans hq)
              · have e2 := he.symm.trans hq; simp only [Option.some.injEq] at e2; right; omega, by omega⟩
            case measure => simp [intOf]; omega
      · obtain rfl : k = X.length := by omega
        go_wp2
        go_ret2
        exact ⟨_, by rw [HC.out]; rfl, by rw [HX.out]; exact hout, hb⟩
  · have hc0 : ¬ tabC X h = 0 := by simpa using hc
    have HX : Hid (tlL X h = []) := by unfold Hid tlL; rw [if_neg hc0]
    clear hc0
    go_enter Tryd.func34, Tryd.ntmps34
    go_wp2_with fail
    refine (c_impl_tableCode X h _ _ HR.out).mono ?_; rintro e w1 ⟨rfl, hb1⟩
    go_wp2
    go_ret2
    exact ⟨_, rfl, by rw [HX.out]; exact OwnRow.nil _ rfl, hb1⟩
set_option maxHeartbeats 4000000 in
set_option maxRecDepth 100000 in
theorem c_spec_TableLines (X : List (List Int)) (h : Int) (v : Value) (w : World) (hr : RdG w v X) :
    Calls Tryd.prog 35 #[v, .int .i64 h] w fun e w' => ∃ r, e = .returned (.tuple #[r, .int .i64 (tabC X h)]) ∧ OwnT w.heap.size w'.heap.size w' r (tlL X h) ∧ Below w.heap.size w w' := by
  have HR := Lib.hid hr
  have hr' := hr
  obtain ⟨a1, cap1, rfl, hl1, hc1⟩ := hr'
  clear hr
  cases hc : (tabC X h != 0)
  · have hc0 : tabC X h = 0 := by simpa using hc
    have HX : Hid (tlL X h = tlTo X h X.length) := by unfold Hid tlL; rw [if_pos hc0]
    have hl8 := (tab_ok hc0).2.1
    have HC := Lib.hid hc0
    have HOK := Lib.hid (tab_ok hc0).2.2
    have HTL := Lib.hid (fun k => tlTo_len X h k)
    have HTS := Lib.hid (fun k => tlTo_succ X h k)
    have HBD := Lib.hid (tabL_bd hc0)
    have HRL := Lib.hid (fun i hi => tabL_rowlen (X := X) (h := h) i hi)
    have HTA : Hid (∀ i, tlAt X h i = lnTo (hexT (X.getD i []) ++ ⟨#[58]⟩) ((tabL X h).getD i []) X.length) := fun _ => rfl
    have HL := Lib.hid (fun k hk => hc1 k hk)
    have htl := tabL_len X h
    clear hc0 hc1
    go_enter Tryd.func35, Tryd.ntmps35
    go_wp2_with fail
    refine (c_spec_l23Code X h _ _ HR.out).mono ?_; rintro e w1 ⟨rfl, hb1⟩
    go_wp2_with fail
    refine (c_spec_l23Table X h _ _ (HR.out.below hb1) HC.out).mono ?_; rintro e w2 ⟨u2, rfl, ho2, hb2⟩
    have hr2 := ho2.rd
    obtain ⟨a2, cap2, rfl, hl2, hc2⟩ := hr2
    rw [htl] at hl2 hc2 ⊢
    rw [htl] at ho2
    have B2 := hb1.tr hb2
    have hs1 := hb1.size
    have hs2 := hb2.size
    clear hc2
    go_wp2
    go_loopw [8, 9] (fun o i wr => ∃ k : Nat, k ≤ X.length ∧ i = .int .i64 k ∧ OwnT w2.heap.size wr.heap.size wr o (tlTo X h k) ∧ Below w2.heap.size w2 wr) (fun _ i _ => X.length - (intOf i).toNat)
    case atStart => exact ⟨0, by omega, rfl, (OwnRow.made rfl rfl (Nat.le_refl _)).tight, by (repeat (first | (with_reducible assumption) | (with_reducible exact Below.refl _ _) | (with_reducible refine Below.setCell ?_ (by first | (simp; done) | (simp; omega)) _) | (with_reducible refine Below.al ?_ _) | (with_reducible refine Below.dr ?_) | (with_reducible refine Below.drN ?_ _) | (with_reducible refine Below.tr ?_ (by with_reducible assumption))))⟩
    case round =>
      obtain ⟨k, hk, rfl, hout, hb2r⟩ := hrel
      have hsz := hb2r.size
      have hb : Below w.heap.size w wr := B2.tr hb2r
      have hbs := hb.size
      by_cases hlt : k < X.length
      · obtain ⟨atb, captb, hetb, hcell⟩ := (tab_rd ho2.rd).below hb2r
        cases hetb
        obtain ⟨b2, o2, bi, oi, ci, ha2, hrow, hent⟩ := hcell k hlt
        subst ha2
        obtain ⟨b1, o1, u1, rfl, hx1, hu1⟩ := HL.out k hlt
        have y1 := keepc hb hx1
        have HU := Lib.hid (hu1.below hb)
        have HT := Lib.hid (HTS.out k)
        have hkl : (tlTo X h k).length < 1000000000 := by have := HTL.out k; omega
        obtain ⟨hvp, -, -⟩ := HOK.out k hlt
        have hn := okThrows_iff.1 (valid_ok hvp)
        have hPs : (hexT (X.getD k [])).size ≤ 12 := by rw [hexT_size]; omega
        have HVP := Lib.hid hvp
        have HTk := Lib.hid (HTA.out k)
        have HE := Lib.hid (fun j hj => tabD_row (X := X) (h := h) k j hlt hj)
        have HBk := Lib.hid (fun j hj => HBD.out k j hlt hj)
        have HRk := Lib.hid (HRL.out k hlt)
        have HEN := Lib.hid hent
        clear hx1 hu1 hcell hent hvp hn
        obtain ⟨P, HP⟩ : ∃ P, Hid (hexT (X.getD k []) = P) := ⟨_, Lib.hid rfl⟩
        obtain ⟨p, Hp⟩ : ∃ p, Hid (X.getD k [] = p) := ⟨_, Lib.hid rfl⟩
        obtain ⟨R, HRR⟩ : ∃ R, Hid ((tabL X h).getD k [] = R) := ⟨_, Lib.hid rfl⟩
        rw [HP.out] at HTk hPs
        rw [Hp.out] at HP HVP HU
        rw [HRR.out] at HTk HE HBk HRk
        have s1 : ¬ 9223372036854775807 < P.size + 1 := by omega
        have HSZ := Lib.hid (fun j hj => lnTo_size (P ++ ⟨#[58]⟩) R (by rw [ByteArray.size_append]; show _ + 1 ≤ _; omega) (fun j hj => by have := HBk.out j (by rw [HRk.out] at hj; exact hj); unfold inI; omega) j hj)
        have HSC := Lib.hid (fun j hj => lnTo_succ (P ++ ⟨#[58]⟩) R j hj)
        have HL0 : Hid (lnTo (P ++ ⟨#[58]⟩) R 0 = P ++ ⟨#[58]⟩) := rfl
        obtain ⟨wo, rfl⟩ : ∃ wo : World, wo = wr := ⟨_, rfl⟩
        go_wp2_with fail
        refine (c_patS p P HP _ _ HU.out HVP).mono ?_; rintro e w3 ⟨rfl, hb3⟩
        have hs3 := hb3.size
        go_wp2
        go_loopw [10, 11] (fun s i wr => ∃ j : Nat, j ≤ X.length ∧ i = .int .i64 j ∧ s = .string (lnTo (P ++ ⟨#[58]⟩) R j) ∧ Below wo.heap.size wo wr) (fun _ i _ => X.length - (intOf i).toNat)
        case atStart => exact ⟨0, by omega, rfl, by rw [HL0.out], hb3⟩
        case round =>
          obtain ⟨j, hj, rfl, rfl, hbq⟩ := hrel
          have hsq := hbq.size
          by_cases hjl : j < X.length
          · have z := keepc hbq (HEN.out j hjl)
            have zr := keepc hbq hrow
            have hbn := HBk.out j hjl
            have hE := HE.out j hjl
            have HSj := Lib.hid (HSC.out j (by rw [HRk.out]; exact hjl))
            have hsz2 := HSZ.out j (by rw [HRk.out]; exact hj)
            rw [← hE] at z
            obtain ⟨n, Hn⟩ : ∃ n, Hid (R.getD j 0 = n) := ⟨_, Lib.hid rfl⟩
            rw [Hn.out] at z hbn HSj
            have hin : inI n := by unfold inI; omega
            have hd1 := decT_size hin
            obtain ⟨D, HD⟩ : ∃ D, Hid (decT n = D) := ⟨_, Lib.hid rfl⟩
            obtain ⟨S, HS⟩ : ∃ S, Hid (lnTo (P ++ ⟨#[58]⟩) R j = S) := ⟨_, Lib.hid rfl⟩
            rw [HD.out] at hd1 HSj
            rw [HS.out] at HSj hsz2 ⊢
            have s2 : ¬ 9223372036854775807 < 1 + D.size := by omega
            have s3 : ¬ 9223372036854775807 < S.size + (1 + D.size) := by omega
            clear hE
            go_wp2_with fail
            refine (c_decS n D HD _ hin).mono ?_; rintro e w4 ⟨rfl, hb4⟩
            go_wp2
            go_roundw
            case rel => exact ⟨j + 1, by omega, by go_num, by rw [HSj.out], hbq.tr hb4⟩
            case measure => simp [intOf]; omega
          · obtain rfl : j = X.length := by omega
            have hout6 := hout.below hbq
            have hlo := World.ownsRow.lt hout.1
            rw [← HTk.out]
            obtain ⟨S, HS⟩ : ∃ S, Hid (tlAt X h k = S) := ⟨_, Lib.hid rfl⟩
            rw [HS.out] at HT ⊢
            have hBq := hb2r.tr hbq
            go_wp2_with (at_builtin; refine push_row_at (row := rowT) rfl _ _ _ _ rfl Tryd.underlying22 (.string ⟨#[]⟩) 16 infoTx rfl (by decide) (by decide) rowT_len w2.heap.size _ _ _ S #[.string S] _ rfl (rowT_ones _) rfl rfl (by exact hout6) hkl (by omega) ?_; intro v' w6 hown6 hbel6 hs6 hg6 hat6)
            go_roundw
            case rel => exact ⟨k + 1, by omega, by go_num, by rw [HT.out]; exact hown6, hBq.grown hg6 hBq.size (fun q hq => (hlo q hq).1)⟩
            case measure => simp [intOf]; omega
      · obtain rfl : k = X.length := by omega
        go_wp2
        go_ret2
        exact ⟨_, by rw [HC.out]; rfl, by rw [HX.out]; exact hout.wide (by omega) (Nat.le_refl _), B2.tr hb2r⟩
  · have hc0 : ¬ tabC X h = 0 := by simpa using hc
    have HX : Hid (tlL X h = []) := by unfold Hid tlL; rw [if_neg hc0]
    clear hc0
    go_enter Tryd.func35, Tryd.ntmps35
    go_wp2_with fail
    refine (c_spec_l23Code X h _ _ HR.out).mono ?_; rintro e w1 ⟨rfl, hb1⟩
    go_wp2
    go_ret2
    exact ⟨_, rfl, by rw [HX.out]; exact OwnRow.nil _ rfl, hb1⟩
end Go.Proofs.YtjokodlappeapaaDoor
