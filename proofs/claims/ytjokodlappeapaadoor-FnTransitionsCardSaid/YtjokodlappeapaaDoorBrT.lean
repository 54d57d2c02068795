/- BrT, BrI: laid one behind the other. -/
import Derived.Test.YtjokodlappeapaaDoorTab
import Derived.Test.YtjokodlappeapaaDoorHexI
import Derived.Test.YtjokodlappeapaaDoorMemGS
import Derived.Deep.RegionHeld3
section
set_option linter.unusedVariables false
namespace Go.Proofs.YtjokodlappeapaaDoor
open Go.ChangeShapes Go.WideShapes Go.ChangeAt Go.RowKit
theorem shortL_bd {n h b : Int} (hh : 1 ≤ h ∧ h ≤ 10) (hb : b ∈ maskL n h) : ∀ (k : Nat) (a : Int), a ∈ maskL n h → (shortL h a b).length = k → ∀ x ∈ shortL h a b, 0 ≤ x ∧ x ≤ h := by
  intro k
  induction k with
  | zero => intro a _ hl x hx; rw [List.eq_nil_of_length_eq_zero hl] at hx; simp at hx
  | succ k ih =>
    intro a ha hl x hx
    by_cases he : a = b
    · subst he; rw [shortL_self] at hx; simp at hx
    · have h1 := shortL_step hh ha hb he
      have hpk := pick_some hh ha hb he
      have hpl := (mem_throwsL (by omega)).1 hpk.1
      rw [h1] at hl hx
      rcases List.mem_cons.1 hx with e | e
      · rw [e]; exact hpl.1
      · exact ih _ (next_mem hh ha hpl.2) (by simpa using hl) x e
theorem bridge_bd {a b : List Int} {h : Int} (hc : brC a b h = 0) : ∀ x ∈ bridgeL a b h, 0 ≤ x ∧ x < 16 := by
  obtain ⟨⟨hva, hvb⟩, hh, ⟨hpa, hpb⟩, he⟩ := brC_ok hc
  have h2 := stM_mem hvb 0 hh hpb
  rw [← he] at h2
  intro x hx
  have := shortL_bd hh h2 _ _ (stM_mem hva 0 hh hpa) rfl x hx
  omega
/-- the texts of the bridges from one pattern to k of the list -/
noncomputable def brRow (X : List (List Int)) (h : Int) (i k : Nat) : List ByteArray := (List.range k).map fun j => hexT (bridgeL (X.getD i []) (X.getD j []) h)
noncomputable def brTab (X : List (List Int)) (h : Int) (k : Nat) : List (List ByteArray) := (List.range k).map fun i => brRow X h i X.length
noncomputable def btX (X : List (List Int)) (h : Int) : List (List ByteArray) := if tabC X h = 0 then brTab X h X.length else []
theorem brRow_succ (X : List (List Int)) (h : Int) (i k : Nat) : brRow X h i (k + 1) = brRow X h i k ++ [hexT (bridgeL (X.getD i []) (X.getD k []) h)] := by simp [brRow, List.range_succ]
theorem brTab_succ (X : List (List Int)) (h : Int) (k : Nat) : brTab X h (k + 1) = brTab X h k ++ [brRow X h k X.length] := by simp [brTab, List.range_succ]
theorem brRow_len (X : List (List Int)) (h : Int) (i k : Nat) : (brRow X h i k).length = k := by simp [brRow]
theorem brTab_len (X : List (List Int)) (h : Int) (k : Nat) : (brTab X h k).length = k := by simp [brTab]
end Go.Proofs.YtjokodlappeapaaDoor
end
section
set_option linter.unusedVariables false
namespace Go.Proofs.YtjokodlappeapaaDoor
open Go.ChangeShapes Go.WideShapes Go.ChangeAt Go.RowKit
set_option linter.unusedSimpArgs false
theorem infoT : (Tryd.prog.info? 9).map (fun i => (i.zero, i.size, i.bytes)) = some (some (.string ⟨#[]⟩), 1, 16) := by kernel_rfl
theorem infoST : (Tryd.prog.info? 22).map (fun i => (i.zero, i.size, i.bytes)) = some (some (.slice none 0 0), 1, 24) := by kernel_rfl
theorem rowT_one (s : ByteArray) : ∀ u ∈ rowT s, u.oneCell' = true := by
  intro u hu
  simp only [rowT, List.mem_singleton] at hu
  subst hu; rfl
theorem rowT_slice {lo E sz n : Nat} {w : World} {v : Value} {xs : List Value} (h : w.ownsRow lo E sz v n xs) : v.oneCell' = true := by
  rcases h.2 with ⟨rfl, _⟩ | ⟨g, cap, cur, rfl, _⟩ <;> rfl
theorem OwnGS.lt {ES e : TypeId} {lo hi : Nat} {w : World} {v : Value} {X : List (List ByteArray)} (h : OwnGS rowT ES e lo hi w v X) : ∀ k, v.ownBlock = some k → lo ≤ k ∧ k < w.heap.size := by
  obtain ⟨vs, k1, k2, _⟩ := h
  exact World.ownsRow.lt k2
theorem c_hexD (xs : List Int) (D : ByteArray) (hD : hexT xs = D) (v : Value) (w : World) (h : RdI w v xs) (hx : ∀ x ∈ xs, 0 ≤ x ∧ x < 16) (hl : xs.length < 1000000) :
    Calls Tryd.prog 56 #[v] w fun e w' => e = .returned (.string D) ∧ Below w.heap.size w w' := by
  subst hD; exact c_impl_hexDigits xs v w h hx hl
theorem c_textD (xs : List Int) (D : ByteArray) (hD : hexT xs = D) (v : Value) (w : World) (h : RdI w v xs) (hx : ∀ x ∈ xs, 0 ≤ x ∧ x < 16) :
    Calls Tryd.prog 58 #[v] w fun e w' => e = .returned (.string D) ∧ Below w.heap.size w w' := by
  subst hD; exact c_spec_l02Text xs v w h hx
set_option maxHeartbeats 4000000 in
set_option maxRecDepth 100000 in
theorem c_impl_BridgeTexts (X : List (List Int)) (h : Int) (v : Value) (w : World) (hr : RdG w v X) :
    Calls Tryd.prog 32 #[v, .int .i64 h] w fun e w' => ∃ r, e = .returned (.tuple #[r, .int .i64 (tabC X h)]) ∧ OwnSS w.heap.size w'.heap.size w' r (btX X h) ∧ Below w.heap.size w w' := by
  have HR := Lib.hid hr
  have hr' := hr
  obtain ⟨a1, cap1, rfl, hl1, hc1⟩ := hr'
  clear hr
  cases hc : (tabC X h != 0)
  · have hc0 : tabC X h = 0 := by simpa using hc
    have HX : Hid (btX X h = brTab X h X.length) := by unfold Hid btX; rw [if_pos hc0]
    have HBR := Lib.hid (fun i j => fun hi hj => tab_br (i := i) (j := j) hc0 hi hj)
    have hl8 := (tab_ok hc0).2.1
    have HC := Lib.hid hc0
    have HTL := Lib.hid (fun k => brTab_len X h k)
    have HRL := Lib.hid (fun k j => brRow_len X h k j)
    have HTS := Lib.hid (fun k => brTab_succ X h k)
    have HRS := Lib.hid (fun k j => brRow_succ X h k j)
    have HL := Lib.hid (fun k hk => hc1 k hk)
    clear hc0 hc1
    go_enter Tryd.func32, Tryd.ntmps32
    go_wp2_with fail
    refine (c_impl_tableCode X h _ _ HR.out).mono ?_; rintro e w1 ⟨rfl, hb1⟩
    go_wp2
    go_loopw [7, 22] (fun o i wr => ∃ k : Nat, k ≤ X.length ∧ i = .int .i64 k ∧ OwnSS w.heap.size wr.heap.size wr o (brTab X h k) ∧ Below w.heap.size w wr) (fun _ i _ => X.length - (intOf i).toNat)
    case atStart => exact ⟨0, by omega, rfl, (OwnGS.made rfl hb1.size).tight, by (repeat (first | (with_reducible assumption) | (with_reducible exact Below.refl _ _) | (with_reducible refine Below.setCell ?_ (by first | (simp; done) | (simp; omega)) _) | (with_reducible refine Below.al ?_ _) | (with_reducible refine Below.dr ?_) | (with_reducible refine Below.drN ?_ _) | (with_reducible refine Below.tr ?_ (by with_reducible assumption))))⟩
    case round =>
      obtain ⟨k, hk, rfl, hout, hb⟩ := hrel
      by_cases hlt : k < X.length
      · obtain ⟨b2, o2, u2, rfl, hx2, hu2⟩ := HL.out k hlt
        have y2 := keepc hb hx2
        have HT := Lib.hid (HTS.out k)
        have hkl : (brTab X h k).length < 1000000000 := by have := HTL.out k; omega
        clear hx2
        obtain ⟨wo, rfl⟩ : ∃ wo : World, wo = wr := ⟨_, rfl⟩
        go_wp2
        go_loopw [10, 29] (fun r i wr => ∃ j : Nat, j ≤ X.length ∧ i = .int .i64 j ∧ OwnT wo.heap.size wr.heap.size wr r (brRow X h k j) ∧ Below wo.heap.size wo wr) (fun _ i _ => X.length - (intOf i).toNat)
        case atStart => exact ⟨0, by omega, rfl, (OwnRow.made rfl rfl (Nat.le_refl _)).tight, by (repeat (first | (with_reducible assumption) | (with_reducible exact Below.refl _ _) | (with_reducible refine Below.setCell ?_ (by first | (simp; done) | (simp; omega)) _) | (with_reducible refine Below.al ?_ _) | (with_reducible refine Below.dr ?_) | (with_reducible refine Below.drN ?_ _) | (with_reducible refine Below.tr ?_ (by with_reducible assumption))))⟩
        case round =>
          obtain ⟨j, hj, rfl, hrow, hbq⟩ := hrel
          by_cases hjl : j < X.length
          · obtain ⟨b3, o3, u3, hae, hx3, hu3⟩ := HL.out j hjl
            cases hae
            have y3 := keepc (hb.tr hbq) hx3
            have r3 := hu3.below (hb.tr hbq)
            have r2 := hu2.below (hb.tr hbq)
            have HRj := Lib.hid (HRS.out k j)
            have hll : (brRow X h k j).length < 1000000000 := by have := HRL.out k j; omega
            have HB0 := Lib.hid (HBR.out k j hlt hjl)
            clear hx3 hu3
            obtain ⟨p, Hp⟩ : ∃ p, Hid (X.getD k [] = p) := ⟨_, rfl⟩
            obtain ⟨q, Hq⟩ : ∃ q, Hid (X.getD j [] = q) := ⟨_, rfl⟩
            obtain ⟨D, HD⟩ : ∃ D, Hid (hexT (bridgeL (X.getD k []) (X.getD j []) h) = D) := ⟨_, rfl⟩
            rw [HD.out] at HRj
            rw [Hp.out, Hq.out] at HD HB0
            rw [Hp.out] at r2
            rw [Hq.out] at r3
            have HBD := Lib.hid (bridge_bd HB0.out)
            have hbl := bridgeL_len HB0.out
            have R2 := Lib.hid r2
            have R3 := Lib.hid r3
            clear r2 r3
            go_wp2_with fail
            refine (c_impl_bridge p q h _ _ _ R2.out R3.out HB0.out).mono ?_; rintro e w4 ⟨u4, rfl, ho4, hb4⟩
            go_wp2_with fail
            refine (c_hexD _ D HD.out _ _ ho4.rd HBD.out (by omega)).mono ?_; rintro e w5 ⟨rfl, hb5⟩
            have hs5 := hb5.size
            have hs4 := hb4.size
            have hsq := hbq.size
            have hrow5 := (hrow.below hb4).below hb5
            go_wp2_with (at_builtin; refine push_row (row := rowT) rfl _ _ _ _ rfl Tryd.underlying22 (.string ⟨#[]⟩) 16 infoT rfl (by decide) (by decide) rowT_len wo.heap.size _ _ _ D #[.string D] _ rfl (rowT_one _) rfl rfl (by exact hrow5) hll (by omega) ?_; intro v' w6 hown6 hbel6 hs6)
            go_roundw
            case rel => exact ⟨j + 1, by omega, by go_num, by rw [HRj.out]; exact hown6, hbel6 _ ((hbq.tr hb4).tr hb5)⟩
            case measure => simp [intOf]; omega
          · obtain rfl : j = X.length := by omega
            have hout6 := hout.below hbq
            have hlo := World.ownsRow.lt hrow.1
            have hsq := hbq.size
            have hrr := hrow.rd rowT_len
            obtain ⟨ar, capr, rfl, -, -⟩ := hrr
            go_wp2_with (at_builtin; refine push_gs (row := rowT) rfl _ _ _ rfl Tryd.underlying47 infoST _ _ _ _ _ rfl rfl (by exact hout6) (by exact owns_base hrow.1 hb.size) (fun b hb => (hlo b hb).1) (by exact rowT_slice hrow.1) hkl (by have := hb.size; omega) ?_; intro v' w9 hG hg9 hat9 hs9)
            go_roundw
            case rel => exact ⟨k + 1, by omega, by go_num, by rw [HT.out]; exact hG, (hb.tr hbq).grown hg9 (hb.tr hbq).size (fun q hq => (OwnGS.lt hout6 q hq).1)⟩
            case measure => simp [intOf]; omega
      · obtain rfl : k = X.length := by omega
        go_wp2
        go_ret2
        exact ⟨_, by rw [HC.out]; rfl, by rw [HX.out]; exact hout, hb⟩
  · have hc0 : ¬ tabC X h = 0 := by simpa using hc
    have HX : Hid (btX X h = []) := by unfold Hid btX; rw [if_neg hc0]
    clear hc0
    go_enter Tryd.func32, Tryd.ntmps32
    go_wp2_with fail
    refine (c_impl_tableCode X h _ _ HR.out).mono ?_; rintro e w1 ⟨rfl, hb1⟩
    go_wp2
    go_ret2
    exact ⟨_, rfl, by rw [HX.out]; exact OwnGS.nil _, hb1⟩
set_option maxHeartbeats 4000000 in
set_option maxRecDepth 100000 in
theorem c_spec_BridgeTexts (X : List (List Int)) (h : Int) (v : Value) (w : World) (hr : RdG w v X) :
    Calls Tryd.prog 33 #[v, .int .i64 h] w fun e w' => ∃ r, e = .returned (.tuple #[r, .int .i64 (tabC X h)]) ∧ OwnSS w.heap.size w'.heap.size w' r (btX X h) ∧ Below w.heap.size w w' := by
  have HR := Lib.hid hr
  have hr' := hr
  obtain ⟨a1, cap1, rfl, hl1, hc1⟩ := hr'
  clear hr
  cases hc : (tabC X h != 0)
  · have hc0 : tabC X h = 0 := by simpa using hc
    have HX : Hid (btX X h = brTab X h X.length) := by unfold Hid btX; rw [if_pos hc0]
    have HBR := Lib.hid (fun i j => fun hi hj => tab_br (i := i) (j := j) hc0 hi hj)
    have hl8 := (tab_ok hc0).2.1
    have HC := Lib.hid hc0
    have HTL := Lib.hid (fun k => brTab_len X h k)
    have HRL := Lib.hid (fun k j => brRow_len X h k j)
    have HTS := Lib.hid (fun k => brTab_succ X h k)
    have HRS := Lib.hid (fun k j => brRow_succ X h k j)
    have HL := Lib.hid (fun k hk => hc1 k hk)
    clear hc0 hc1
    go_enter Tryd.func33, Tryd.ntmps33
    go_wp2_with fail
    refine (c_spec_l23Code X h _ _ HR.out).mono ?_; rintro e w1 ⟨rfl, hb1⟩
    go_wp2
    go_loopw [7, 8] (fun o i wr => ∃ k : Nat, k ≤ X.length ∧ i = .int .i64 k ∧ OwnSS w.heap.size wr.heap.size wr o (brTab X h k) ∧ Below w.heap.size w wr) (fun _ i _ => X.length - (intOf i).toNat)
    case atStart => exact ⟨0, by omega, rfl, (OwnGS.made rfl hb1.size).tight, by (repeat (first | (with_reducible assumption) | (with_reducible exact Below.refl _ _) | (with_reducible refine Below.setCell ?_ (by first | (simp; done) | (simp; omega)) _) | (with_reducible refine Below.al ?_ _) | (with_reducible refine Below.dr ?_) | (with_reducible refine Below.drN ?_ _) | (with_reducible refine Below.tr ?_ (by with_reducible assumption))))⟩
    case round =>
      obtain ⟨k, hk, rfl, hout, hb⟩ := hrel
      by_cases hlt : k < X.length
      · have HT := Lib.hid (HTS.out k)
        have hkl : (brTab X h k).length < 1000000000 := by have := HTL.out k; omega
        obtain ⟨wo, rfl⟩ : ∃ wo : World, wo = wr := ⟨_, rfl⟩
        go_wp2
        go_loopw [9, 10] (fun r i wr => ∃ j : Nat, j ≤ X.length ∧ i = .int .i64 j ∧ OwnT wo.heap.size wr.heap.size wr r (brRow X h k j) ∧ Below wo.heap.size wo wr) (fun _ i _ => X.length - (intOf i).toNat)
        case atStart => exact ⟨0, by omega, rfl, (OwnRow.made rfl rfl (Nat.le_refl _)).tight, by (repeat (first | (with_reducible assumption) | (with_reducible exact Below.refl _ _) | (with_reducible refine Below.setCell ?_ (by first | (simp; done) | (simp; omega)) _) | (with_reducible refine Below.al ?_ _) | (with_reducible refine Below.dr ?_) | (with_reducible refine Below.drN ?_ _) | (with_reducible refine Below.tr ?_ (by with_reducible assumption))))⟩
        case round =>
          obtain ⟨j, hj, rfl, hrow, hbq⟩ := hrel
          have hs6 := hbq.size
          by_cases hjl : j < X.length
          · obtain ⟨b1, o1, u2, rfl, hx2, hu2⟩ := HL.out k hlt
            obtain ⟨b3, o3, u3, hae, hx3, hu3⟩ := HL.out j hjl
            cases hae
            have hbb : b1 < w.heap.size := World.block_lt_of_cell? w _ hx2
            have y2 := keepc (hb.tr hbq) hx2
            have y3 := keepc (hb.tr hbq) hx3
            have r3 := hu3.below (hb.tr hbq)
            have r2 := hu2.below (hb.tr hbq)
            have HRj := Lib.hid (HRS.out k j)
            have hll : (brRow X h k j).length < 1000000000 := by have := HRL.out k j; omega
            have HB0 := Lib.hid (HBR.out k j hlt hjl)
            clear hx3 hu3 hx2 hu2
            obtain ⟨p, Hp⟩ : ∃ p, Hid (X.getD k [] = p) := ⟨_, rfl⟩
            obtain ⟨q, Hq⟩ : ∃ q, Hid (X.getD j [] = q) := ⟨_, rfl⟩
            obtain ⟨D, HD⟩ : ∃ D, Hid (hexT (bridgeL (X.getD k []) (X.getD j []) h) = D) := ⟨_, rfl⟩
            rw [HD.out] at HRj
            rw [Hp.out, Hq.out] at HD HB0
            rw [Hp.out] at r2
            rw [Hq.out] at r3
            have HBD := Lib.hid (bridge_bd HB0.out)
            have R2 := Lib.hid r2
            have R3 := Lib.hid r3
            clear r2 r3
            have hk0 : (0 : Int) ≤ (k : Int) := Int.natCast_nonneg _
            have hk1 : (k : Int) < (X.length : Int) := by omega
            have hj0 : (0 : Int) ≤ (j : Int) := Int.natCast_nonneg _
            have hj1 : (j : Int) < (X.length : Int) := by omega
            have hbs := hb.size
            have hbw : b1 < wr.heap.size := by omega
            have hnu : u9.ownBlock ≠ some b1 := fun e => by have := (World.ownsRow.lt hrow.1 b1 e).1; omega
            go_wp2_with fail
            go_region_held3 (fun w' => w'.cell? ⟨b1, o1 + k, none⟩ = some u2 ∧ w'.cell? ⟨b1, o1 + j, none⟩ = some u3)
              (go_keep)
              (first
                | ((go_at_call 59; refine (c_spec_l10Bridge p q h _ _ _ (by exact R2.out) (by exact R3.out) HB0.out).mono ?_; rintro e w5 ⟨u5, rfl, ho5, hb5⟩; have hb5' := below_drew hb5; have z1 := keepc hb5' y2; have z2 := keepc hb5' y3; have hrow5 := hrow.below hb5'; have hs5 := hb5'.size; have r5 := ho5.rd))
                | ((go_at_call 58; refine (c_textD (bridgeL p q h) D HD.out _ _ r5 HBD.out).mono ?_; rintro e w6 ⟨rfl, hb6⟩; have hrow6 := hrow5.below hb6; have q1 := keepc hb6 z1; have q2 := keepc hb6 z2; have hs7 := hb6.size))
                | ((refine step_push_row (row := rowT) (by exact rfl) _ _ _ _ (by exact rfl) Tryd.underlying22 (.string ⟨#[]⟩) 16 infoT rfl (by decide) (by decide) rowT_len wo.heap.size wr.heap.size w6.heap.size u9 (brRow X h k j) D #[.string D] _ rfl (rowT_one _) (by exact rfl) (by exact rfl) (heap_alloc_new w6 _) (by exact OwnRow.al hrow6 _) hll ?_ ?_; exact (Nat.le_trans (Nat.le_trans (Nat.le_trans hs6 hs5) hs7) (Nat.le_of_lt (Nat.lt_of_lt_of_le (Nat.lt_succ_self _) (Nat.le_of_eq (World.size_alloc w6 _).symm)))); intro v7 w7 hown7 hg7 hat7 hs8; have t1 := grown_c hg7 (al_c _ q1) hnu; have t2 := grown_c hg7 (al_c _ q2) hnu)))
            have hBa : Below wo.heap.size wo (w6.alloc (Obj.cells #[Value.string D] 9)) := by (repeat (first | (with_reducible assumption) | (with_reducible exact Below.refl _ _) | (with_reducible refine Below.setCell ?_ (by first | (simp; done) | (simp; omega)) _) | (with_reducible refine Below.al ?_ _) | (with_reducible refine Below.dr ?_) | (with_reducible refine Below.drN ?_ _) | (with_reducible refine Below.tr ?_ (by with_reducible assumption))))
            go_wp2
            go_roundw
            case rel => exact ⟨j + 1, by omega, by go_num, by rw [HRj.out]; exact hown7, hBa.grown hg7 hBa.size (fun q hq => (World.ownsRow.lt hrow.1 q hq).1)⟩
            case measure => simp [intOf]; omega
          · obtain rfl : j = X.length := by omega
            have hout6 := hout.below hbq
            have hlo := World.ownsRow.lt hrow.1
            have hrr := hrow.rd rowT_len
            obtain ⟨ar, capr, rfl, -, -⟩ := hrr
            go_wp2_with (at_builtin; refine push_gs (row := rowT) rfl _ _ _ rfl Tryd.underlying47 infoST _ _ _ _ _ rfl rfl (by exact hout6) (by exact owns_base hrow.1 hb.size) (fun b hb => (hlo b hb).1) (by exact rowT_slice hrow.1) hkl (by have := hb.size; omega) ?_; intro v' w9 hG hg9 hat9 hs9)
            go_roundw
            case rel => exact ⟨k + 1, by omega, by go_num, by rw [HT.out]; exact hG, (hb.tr hbq).grown hg9 (hb.tr hbq).size (fun q hq => (OwnGS.lt hout6 q hq).1)⟩
            case measure => simp [intOf]; omega
      · obtain rfl : k = X.length := by omega
        go_wp2
        go_ret2
        exact ⟨_, by rw [HC.out]; rfl, by rw [HX.out]; exact hout, hb⟩
  · have hc0 : ¬ tabC X h = 0 := by simpa using hc
    have HX : Hid (btX X h = []) := by unfold Hid btX; rw [if_neg hc0]
    clear hc0
    go_enter Tryd.func33, Tryd.ntmps33
    go_wp2_with fail
    refine (c_spec_l23Code X h _ _ HR.out).mono ?_; rintro e w1 ⟨rfl, hb1⟩
    go_wp2
    go_ret2
    exact ⟨_, rfl, by rw [HX.out]; exact OwnGS.nil _, hb1⟩
end Go.Proofs.YtjokodlappeapaaDoor
end
