/- The law FnExactEventText returns true for all events. The row lists strconv's tables as the program's text lays them (the card ties them). -/
import Derived.Test.YtddfdppoclnpcaaDoorDoorF
import Derived.Deep.RegionHeld3
namespace Go.Proofs.YtddfdppoclnpcaaDoor
open Go.ChangeShapes Go.WideShapes Go.ChangeAt Go.RowKit
set_option linter.unusedVariables false
set_option linter.unusedSimpArgs false
/-- the word of a hand -/
def handT (h : Int) : ByteArray := if h = -1 then ⟨#[97, 105, 114]⟩ else if h = 0 then ⟨#[108, 101, 102, 116]⟩ else if h = 1 then ⟨#[114, 105, 103, 104, 116]⟩ else ⟨#[]⟩
theorem handT_size (h : Int) : (handT h).size ≤ 5 := by
  unfold handT
  split
  · decide
  · split
    · decide
    · split <;> decide
def kindT (b : Bool) : ByteArray := bif b then ⟨#[116, 104, 114, 111, 119, 115]⟩ else ⟨#[99, 97, 116, 99, 104, 101, 115]⟩
def spT : ByteArray := ⟨#[32]⟩
def evT (t : Int) (b : Bool) (h p : Int) : ByteArray := if h = 0 ∨ h = 1 then decT t ++ spT ++ kindT b ++ spT ++ decT p ++ spT ++ handT h else ⟨#[]⟩
theorem c_impl_handWord (h : Int) (w : World) : Calls Tryd.prog 37 #[.int .i64 h] w fun e w' => e = .returned (.string (handT h)) ∧ w = w' := by
  by_cases h1 : h = -1
  · subst h1
    go_enter Tryd.func37, Tryd.ntmps37
    go_wp2
    go_ret
    exact ⟨rfl, rfl⟩
  · by_cases h2 : h = 0
    · subst h2
      go_enter Tryd.func37, Tryd.ntmps37
      go_wp2
      go_ret
      exact ⟨rfl, rfl⟩
    · by_cases h3 : h = 1
      · subst h3
        go_enter Tryd.func37, Tryd.ntmps37
        go_wp2
        go_ret
        exact ⟨rfl, rfl⟩
      · have HH : Hid (handT h = ⟨#[]⟩) := by unfold Hid handT; rw [if_neg h1, if_neg h2, if_neg h3]
        have t1 : (h == -1) = false := by simpa using h1
        have t2 : (h == 0) = false := by simpa using h2
        have t3 : (h == 1) = false := by simpa using h3
        go_enter Tryd.func37, Tryd.ntmps37
        go_wp2
        go_ret
        exact ⟨by rw [HH.out]; rfl, rfl⟩
theorem c_spec_l26Hand (h : Int) (w : World) : Calls Tryd.prog 35 #[.int .i64 h] w fun e w' => e = .returned (.string (handT h)) ∧ w = w' := by
  by_cases h1 : h = -1
  · subst h1
    go_enter Tryd.func35, Tryd.ntmps35
    go_wp2
    go_ret
    exact ⟨rfl, rfl⟩
  · by_cases h2 : h = 0
    · subst h2
      go_enter Tryd.func35, Tryd.ntmps35
      go_wp2
      go_ret
      exact ⟨rfl, rfl⟩
    · by_cases h3 : h = 1
      · subst h3
        go_enter Tryd.func35, Tryd.ntmps35
        go_wp2
        go_ret
        exact ⟨rfl, rfl⟩
      · have HH : Hid (handT h = ⟨#[]⟩) := by unfold Hid handT; rw [if_neg h1, if_neg h2, if_neg h3]
        have t1 : (h == -1) = false := by simpa using h1
        have t2 : (h == 0) = false := by simpa using h2
        have t3 : (h == 1) = false := by simpa using h3
        go_enter Tryd.func35, Tryd.ntmps35
        go_wp2
        go_ret
        exact ⟨by rw [HH.out]; rfl, rfl⟩
theorem c_decI (n : Int) (D : ByteArray) (hD : Hid (decT n = D)) (w : World) (hn : inI n) (ht : Tab w) :
    Calls Tryd.prog 36 #[.int .i64 n] w fun e w' => e = .returned (.string D) ∧ Below w.heap.size w w' := by
  rw [← hD.out]; exact c_impl_Decimal n w hn ht
theorem c_decS (n : Int) (D : ByteArray) (hD : Hid (decT n = D)) (w : World) (hn : inI n) :
    Calls Tryd.prog 34 #[.int .i64 n] w fun e w' => e = .returned (.string D) ∧ Below w.heap.size w w' := by
  rw [← hD.out]; exact c_spec_l01Dec n w hn
theorem ev_no {t : Int} {b : Bool} {h p : Int} (h0 : ¬ (h = 0 ∨ h = 1)) : Hid (evT t b h p = ⟨#[]⟩) := by unfold Hid evT; rw [if_neg h0]
theorem ev_yes {t : Int} {b : Bool} {h p : Int} (h0 : h = 0 ∨ h = 1) : Hid (evT t b h p = decT t ++ spT ++ kindT b ++ spT ++ decT p ++ spT ++ handT h) := by unfold Hid evT; rw [if_pos h0]
theorem sp_size : (⟨#[32]⟩ : ByteArray).size ≤ 1 := by decide
theorem c7_size : (⟨#[99, 97, 116, 99, 104, 101, 115]⟩ : ByteArray).size ≤ 7 := by decide
theorem t6_size : (⟨#[116, 104, 114, 111, 119, 115]⟩ : ByteArray).size ≤ 7 := by decide
theorem c9_size : (⟨#[32, 99, 97, 116, 99, 104, 101, 115, 32]⟩ : ByteArray).size ≤ 9 := by decide
theorem t8_size : (⟨#[32, 116, 104, 114, 111, 119, 115, 32]⟩ : ByteArray).size ≤ 9 := by decide
set_option maxHeartbeats 4000000 in
set_option maxRecDepth 100000 in
theorem c_impl_EventText (t : Int) (b : Bool) (h p : Int) (w : World) (ht : inI t) (hp : inI p) (hT : Tab w) :
    Calls Tryd.prog 10 #[.agg #[.int .i64 t, .bool b, .int .i64 h, .int .i64 p]] w fun e w' => e = .returned (.string (evT t b h p)) ∧ Below w.heap.size w w' := by
  obtain ⟨W0, hW0⟩ : ∃ W0, W0 = w.alloc (Obj.cells #[Value.int IntKind.i64 t, Value.bool b, Value.int IntKind.i64 h, Value.int IntKind.i64 p] 25) := ⟨_, rfl⟩
  have k0 : W0.cell? ⟨w.heap.size, 0, none⟩ = some (.int .i64 t) := by rw [hW0]; go_simp
  have k1 : W0.cell? ⟨w.heap.size, 1, none⟩ = some (.bool b) := by rw [hW0]; go_simp
  have k2 : W0.cell? ⟨w.heap.size, 2, none⟩ = some (.int .i64 h) := by rw [hW0]; go_simp
  have k3 : W0.cell? ⟨w.heap.size, 3, none⟩ = some (.int .i64 p) := by rw [hW0]; go_simp
  have B0 : Below w.heap.size w W0 := by rw [hW0]; (repeat (first | (with_reducible assumption) | (with_reducible exact Below.refl _ _) | (with_reducible refine Below.setCell ?_ (by first | (simp; done) | (simp; omega)) _) | (with_reducible refine Below.al ?_ _) | (with_reducible refine Below.dr ?_) | (with_reducible refine Below.drN ?_ _) | (with_reducible refine Below.tr ?_ (by with_reducible assumption))))
  have hTab := tab_below hT B0
  have hTabD : Tab W0.drew := hTab
  clear hT
  by_cases h01 : h = 0 ∨ h = 1
  · have HE := ev_yes (t := t) (b := b) (p := p) h01
    have hd1 := decT_size ht
    have hd2 := decT_size hp
    have hh5 := handT_size h
    obtain ⟨D1, HD1⟩ : ∃ D, Hid (decT t = D) := ⟨_, Lib.hid rfl⟩
    obtain ⟨D2, HD2⟩ : ∃ D, Hid (decT p = D) := ⟨_, Lib.hid rfl⟩
    obtain ⟨D3, HD3⟩ : ∃ D, Hid (handT h = D) := ⟨_, Lib.hid rfl⟩
    rw [HD1.out, HD2.out, HD3.out] at HE
    rw [HD1.out] at hd1
    rw [HD2.out] at hd2
    rw [HD3.out] at hh5
    unfold spT at HE
    have tn : (h != 0 && h != 1) = false := by rcases h01 with rfl | rfl <;> decide
    have tn0 : h = 0 → True := fun _ => True.intro
    have KF : Hid (kindT false = ⟨#[99, 97, 116, 99, 104, 101, 115]⟩) := rfl
    have KT : Hid (kindT true = ⟨#[116, 104, 114, 111, 119, 115]⟩) := rfl
    clear tn0
    cases b
    · have s1 : ¬ 9223372036854775807 < D1.size + 1 := by omega
      have s2 : ¬ 9223372036854775807 < D1.size + 1 + 7 := by omega
      have s3 : ¬ 9223372036854775807 < D1.size + 1 + 7 + 1 := by omega
      have s4 : ¬ 9223372036854775807 < D1.size + 1 + 7 + 1 + D2.size := by omega
      have s5 : ¬ 9223372036854775807 < D1.size + 1 + 7 + 1 + D2.size + 1 := by omega
      have s6 : ¬ 9223372036854775807 < D1.size + 1 + 7 + 1 + D2.size + 1 + D3.size := by omega
      rw [KF.out] at HE
      rcases h01 with h0 | h0
      all_goals
        subst h0
        go_enter Tryd.func10, Tryd.ntmps10
        go_wp2_with fail
        rw [← hW0]
        clear hW0
        go_region_held3 (fun w' => w'.cell? ⟨w.heap.size, 0, none⟩ = some (.int .i64 t) ∧ w'.cell? ⟨w.heap.size, 2, none⟩ = W0.cell? ⟨w.heap.size, 2, none⟩ ∧ w'.cell? ⟨w.heap.size, 3, none⟩ = some (.int .i64 p))
          (go_keep)
          (first
            | ((go_at_call 36; (with_reducible refine (c_decI t D1 HD1 _ ht hTabD).mono ?_); rintro e w1 ⟨rfl, hb1⟩; have hb1 := below_drew hb1; have c0 := keepc hb1 k0; have c2 := (keepc hb1 k2).trans k2.symm; have c3 := keepc hb1 k3; have hT1 := tab_below hTab hb1))
            | ((go_at_call 36; (with_reducible refine (c_decI p D2 HD2 _ hp hT1).mono ?_); rintro e w2 ⟨rfl, hb2⟩; have d0 := keepc hb2 c0; have d2 := (keepc hb2 (c2.trans k2)).trans k2.symm; have d3 := keepc hb2 c3))
            | ((go_at_call 37; refine (c_impl_handWord _ _).mono ?_; rintro e w3 ⟨rfl, rfl⟩; rw [HD3.out])))
        go_wp2
        go_ret
        exact ⟨by rw [HE.out]; rfl, (B0.tr hb1).tr hb2⟩
    · have s1 : ¬ 9223372036854775807 < D1.size + 1 := by omega
      have s2 : ¬ 9223372036854775807 < D1.size + 1 + 6 := by omega
      have s3 : ¬ 9223372036854775807 < D1.size + 1 + 6 + 1 := by omega
      have s4 : ¬ 9223372036854775807 < D1.size + 1 + 6 + 1 + D2.size := by omega
      have s5 : ¬ 9223372036854775807 < D1.size + 1 + 6 + 1 + D2.size + 1 := by omega
      have s6 : ¬ 9223372036854775807 < D1.size + 1 + 6 + 1 + D2.size + 1 + D3.size := by omega
      rw [KT.out] at HE
      rcases h01 with h0 | h0
      all_goals
        subst h0
        go_enter Tryd.func10, Tryd.ntmps10
        go_wp2_with fail
        rw [← hW0]
        clear hW0
        go_region_held3 (fun w' => w'.cell? ⟨w.heap.size, 0, none⟩ = some (.int .i64 t) ∧ w'.cell? ⟨w.heap.size, 2, none⟩ = W0.cell? ⟨w.heap.size, 2, none⟩ ∧ w'.cell? ⟨w.heap.size, 3, none⟩ = some (.int .i64 p))
          (go_keep)
          (first
            | ((go_at_call 36; (with_reducible refine (c_decI t D1 HD1 _ ht hTabD).mono ?_); rintro e w1 ⟨rfl, hb1⟩; have hb1 := below_drew hb1; have c0 := keepc hb1 k0; have c2 := (keepc hb1 k2).trans k2.symm; have c3 := keepc hb1 k3; have hT1 := tab_below hTab hb1))
            | ((go_at_call 36; (with_reducible refine (c_decI p D2 HD2 _ hp hT1).mono ?_); rintro e w2 ⟨rfl, hb2⟩; have d0 := keepc hb2 c0; have d2 := (keepc hb2 (c2.trans k2)).trans k2.symm; have d3 := keepc hb2 c3))
            | ((go_at_call 37; refine (c_impl_handWord _ _).mono ?_; rintro e w3 ⟨rfl, rfl⟩; rw [HD3.out])))
        go_wp2
        go_ret
        exact ⟨by rw [HE.out]; rfl, (B0.tr hb1).tr hb2⟩
  · have HE := ev_no (t := t) (b := b) (p := p) h01
    have t1 : (h != 0) = true := by
      have : h ≠ 0 := fun e => h01 (Or.inl e)
      simpa using this
    have t2 : (h != 1) = true := by
      have : h ≠ 1 := fun e => h01 (Or.inr e)
      simpa using this
    clear h01
    go_enter Tryd.func10, Tryd.ntmps10
    go_wp2
    go_ret
    exact ⟨by rw [HE.out]; rfl, by rw [← hW0]; exact B0⟩
theorem ev_alt (D1 D2 D3 : ByteArray) (b : Bool) : D1 ++ spT ++ kindT b ++ spT ++ D2 ++ spT ++ D3 = D1 ++ (spT ++ kindT b ++ spT) ++ D2 ++ spT ++ D3 := by
  apply ByteArray.ext
  simp only [ByteArray.data_append, Array.append_assoc]
set_option maxHeartbeats 4000000 in
set_option maxRecDepth 100000 in
theorem c_spec_EventText (t : Int) (b : Bool) (h p : Int) (w : World) (ht : inI t) (hp : inI p) :
    Calls Tryd.prog 8 #[.agg #[.int .i64 t, .bool b, .int .i64 h, .int .i64 p]] w fun e w' => e = .returned (.string (evT t b h p)) ∧ Below w.heap.size w w' := by
  obtain ⟨W0, hW0⟩ : ∃ W0, W0 = w.alloc (Obj.cells #[Value.int IntKind.i64 t, Value.bool b, Value.int IntKind.i64 h, Value.int IntKind.i64 p] 25) := ⟨_, rfl⟩
  have k0 : W0.cell? ⟨w.heap.size, 0, none⟩ = some (.int .i64 t) := by rw [hW0]; go_simp
  have k1 : W0.cell? ⟨w.heap.size, 1, none⟩ = some (.bool b) := by rw [hW0]; go_simp
  have k2 : W0.cell? ⟨w.heap.size, 2, none⟩ = some (.int .i64 h) := by rw [hW0]; go_simp
  have k3 : W0.cell? ⟨w.heap.size, 3, none⟩ = some (.int .i64 p) := by rw [hW0]; go_simp
  have B0 : Below w.heap.size w W0 := by rw [hW0]; (repeat (first | (with_reducible assumption) | (with_reducible exact Below.refl _ _) | (with_reducible refine Below.setCell ?_ (by first | (simp; done) | (simp; omega)) _) | (with_reducible refine Below.al ?_ _) | (with_reducible refine Below.dr ?_) | (with_reducible refine Below.drN ?_ _) | (with_reducible refine Below.tr ?_ (by with_reducible assumption))))
  by_cases h01 : h = 0 ∨ h = 1
  · have HE := ev_yes (t := t) (b := b) (p := p) h01
    have hd1 := decT_size ht
    have hd2 := decT_size hp
    have hh5 := handT_size h
    obtain ⟨D1, HD1⟩ : ∃ D, Hid (decT t = D) := ⟨_, Lib.hid rfl⟩
    obtain ⟨D2, HD2⟩ : ∃ D, Hid (decT p = D) := ⟨_, Lib.hid rfl⟩
    obtain ⟨D3, HD3⟩ : ∃ D, Hid (handT h = D) := ⟨_, Lib.hid rfl⟩
    rw [HD1.out, HD2.out, HD3.out, ev_alt] at HE
    rw [HD1.out] at hd1
    rw [HD2.out] at hd2
    rw [HD3.out] at hh5
    have hin : inB h 0 1 = true := inB_iff.2 (by omega)
    have KF : Hid (spT ++ kindT false ++ spT = ⟨#[32, 99, 97, 116, 99, 104, 101, 115, 32]⟩) := by unfold Hid; rfl
    have KT : Hid (spT ++ kindT true ++ spT = ⟨#[32, 116, 104, 114, 111, 119, 115, 32]⟩) := by unfold Hid; rfl
    clear h01
    cases b
    · have s1 : ¬ 9223372036854775807 < D1.size + 9 := by omega
      have s2 : ¬ 9223372036854775807 < D1.size + 9 + D2.size := by omega
      have s3 : ¬ 9223372036854775807 < D1.size + 9 + D2.size + 1 := by omega
      have s4 : ¬ 9223372036854775807 < D1.size + 9 + D2.size + 1 + D3.size := by omega
      rw [KF.out] at HE
      go_enter Tryd.func8, Tryd.ntmps8
      go_wp2_with (go_at_call 33; refine (c_spec_l00In _ _ _ _).mono ?_; rintro e w1 ⟨rfl, rfl⟩)
      rw [← hW0]
      clear hW0
      go_region_held3 (fun w' => w'.cell? ⟨w.heap.size, 0, none⟩ = some (.int .i64 t) ∧ w'.cell? ⟨w.heap.size, 2, none⟩ = some (.int .i64 h) ∧ w'.cell? ⟨w.heap.size, 3, none⟩ = some (.int .i64 p))
        (go_keep)
        (first
          | ((go_at_call 34; (with_reducible refine (c_decS t D1 HD1 _ ht).mono ?_); rintro e w1 ⟨rfl, hb1⟩; have hb1 := below_drew hb1; have c0 := keepc hb1 k0; have c2 := keepc hb1 k2; have c3 := keepc hb1 k3))
          | ((go_at_call 34; (with_reducible refine (c_decS p D2 HD2 _ hp).mono ?_); rintro e w2 ⟨rfl, hb2⟩; have d0 := keepc hb2 c0; have d2 := keepc hb2 c2; have d3 := keepc hb2 c3))
          | ((go_at_call 35; refine (c_spec_l26Hand _ _).mono ?_; rintro e w3 ⟨rfl, rfl⟩; rw [HD3.out])))
      go_wp2
      go_ret
      exact ⟨by rw [HE.out]; rfl, (B0.tr hb1).tr hb2⟩
    · have s1 : ¬ 9223372036854775807 < D1.size + 8 := by omega
      have s2 : ¬ 9223372036854775807 < D1.size + 8 + D2.size := by omega
      have s3 : ¬ 9223372036854775807 < D1.size + 8 + D2.size + 1 := by omega
      have s4 : ¬ 9223372036854775807 < D1.size + 8 + D2.size + 1 + D3.size := by omega
      rw [KT.out] at HE
      go_enter Tryd.func8, Tryd.ntmps8
      go_wp2_with (go_at_call 33; refine (c_spec_l00In _ _ _ _).mono ?_; rintro e w1 ⟨rfl, rfl⟩)
      rw [← hW0]
      clear hW0
      go_region_held3 (fun w' => w'.cell? ⟨w.heap.size, 0, none⟩ = some (.int .i64 t) ∧ w'.cell? ⟨w.heap.size, 2, none⟩ = some (.int .i64 h) ∧ w'.cell? ⟨w.heap.size, 3, none⟩ = some (.int .i64 p))
        (go_keep)
        (first
          | ((go_at_call 34; (with_reducible refine (c_decS t D1 HD1 _ ht).mono ?_); rintro e w1 ⟨rfl, hb1⟩; have hb1 := below_drew hb1; have c0 := keepc hb1 k0; have c2 := keepc hb1 k2; have c3 := keepc hb1 k3))
          | ((go_at_call 34; (with_reducible refine (c_decS p D2 HD2 _ hp).mono ?_); rintro e w2 ⟨rfl, hb2⟩; have d0 := keepc hb2 c0; have d2 := keepc hb2 c2; have d3 := keepc hb2 c3))
          | ((go_at_call 35; refine (c_spec_l26Hand _ _).mono ?_; rintro e w3 ⟨rfl, rfl⟩; rw [HD3.out])))
      go_wp2
      go_ret
      exact ⟨by rw [HE.out]; rfl, (B0.tr hb1).tr hb2⟩
  · have HE := ev_no (t := t) (b := b) (p := p) h01
    have hin : inB h 0 1 = false := by
      cases hc : inB h 0 1
      · rfl
      · have := inB_iff.1 hc
        exact absurd (show h = 0 ∨ h = 1 by omega) h01
    clear h01
    go_enter Tryd.func8, Tryd.ntmps8
    go_wp2_with (go_at_call 33; refine (c_spec_l00In _ _ _ _).mono ?_; rintro e w1 ⟨rfl, rfl⟩)
    go_ret
    exact ⟨by rw [HE.out]; rfl, by rw [← hW0]; exact B0⟩
theorem c_laws_toEvent (t : Int) (b : Bool) (h p : Int) (w : World) :
    Calls Tryd.prog 9 #[.agg #[.int .i64 t, .bool b, .int .i64 h, .int .i64 p]] w fun e w' => e = .returned (.agg #[.int .i64 t, .bool b, .int .i64 h, .int .i64 p]) ∧ Below w.heap.size w w' := by
  go_enter Tryd.func9, Tryd.ntmps9
  go_wp2
  exact bodyPost_ret (v := .agg #[.int .i64 t, .bool b, .int .i64 h, .int .i64 p]) (by simp [results, Tryd.results9, go_sem]) rfl ⟨rfl, by (repeat (first | (with_reducible assumption) | (with_reducible exact Below.refl _ _) | (with_reducible refine Below.setCell ?_ (by first | (simp; done) | (simp; omega)) _) | (with_reducible refine Below.al ?_ _) | (with_reducible refine Below.dr ?_) | (with_reducible refine Below.drN ?_ _) | (with_reducible refine Below.tr ?_ (by with_reducible assumption))))⟩
namespace fnExactEventText
set_option maxHeartbeats 2000000 in
theorem walk (v0 : Value) (w : World) (hT : Tab w) (a0 : Arg_Event w v0) : Calls Tryd.prog 3 #[v0] w fun e w' => e = .returned (.bool true) ∧ Below w.heap.size w w' := by
  obtain ⟨t, b, h, p, rfl, ht, hh, hp⟩ := a0
  obtain ⟨W0, hW0⟩ : ∃ W0, W0 = w.alloc (Obj.cells #[Value.int IntKind.i64 t, Value.bool b, Value.int IntKind.i64 h, Value.int IntKind.i64 p] 23) := ⟨_, rfl⟩
  have k0 : W0.cell? ⟨w.heap.size, 0, none⟩ = some (.int .i64 t) := by rw [hW0]; go_simp
  have k1 : W0.cell? ⟨w.heap.size, 1, none⟩ = some (.bool b) := by rw [hW0]; go_simp
  have k2 : W0.cell? ⟨w.heap.size, 2, none⟩ = some (.int .i64 h) := by rw [hW0]; go_simp
  have k3 : W0.cell? ⟨w.heap.size, 3, none⟩ = some (.int .i64 p) := by rw [hW0]; go_simp
  have B0 : Below w.heap.size w W0 := by rw [hW0]; (repeat (first | (with_reducible assumption) | (with_reducible exact Below.refl _ _) | (with_reducible refine Below.setCell ?_ (by first | (simp; done) | (simp; omega)) _) | (with_reducible refine Below.al ?_ _) | (with_reducible refine Below.dr ?_) | (with_reducible refine Below.drN ?_ _) | (with_reducible refine Below.tr ?_ (by with_reducible assumption))))
  have hT0 := tab_below hT B0
  obtain ⟨E, HE⟩ : ∃ E, Hid (evT t b h p = E) := ⟨_, Lib.hid rfl⟩
  clear hT
  go_enter Tryd.func3, Tryd.ntmps3
  go_wp2_with fail
  rw [← hW0]
  clear hW0
  refine (c_laws_toEvent t b h p _).mono ?_; rintro e w1 ⟨rfl, hb1⟩
  go_wp2_with fail
  refine (c_spec_EventText t b h p _ ht hp).mono ?_; rintro e w2 ⟨rfl, hb2⟩; rw [HE.out]
  have hT2 := tab_below (tab_below hT0 hb1) hb2
  have k0 := keepc hb2 (keepc hb1 k0)
  have k1 := keepc hb2 (keepc hb1 k1)
  have k2 := keepc hb2 (keepc hb1 k2)
  have k3 := keepc hb2 (keepc hb1 k3)
  go_wp2_with fail
  refine (c_laws_toEvent t b h p _).mono ?_; rintro e w3 ⟨rfl, hb3⟩
  have hT3 := tab_below hT2 hb3
  go_wp2_with fail
  refine (c_impl_EventText t b h p _ ht hp hT3).mono ?_; rintro e w4 ⟨rfl, hb4⟩; rw [HE.out]
  go_wp2
  go_ret
  exact ⟨rfl, (((B0.tr hb1).tr hb2).tr hb3).tr hb4⟩
theorem own : ownKnob Tryd.prog.godebug = none := by kernel_rfl
theorem laidOut : laidOutB Tryd.prog = true := by kernel_rfl
theorem door_met (os : Os) (args : Array Value) : laidMetH Tryd.prog Rows.fnExactEventTextRow.laid ((World.doorLaid Tryd.prog 24 os).forCall (fun _ _ => 0) ⟨#[], args, []⟩).memory :=
  laidMetH_of_parts3 (fuel := 8) (laidMet_of_run' 8 (by kernel_rfl) (by kernel_rfl)) (by kernel_rfl) (by kernel_rfl)
set_option maxRecDepth 100000 in
theorem lifted (os : Os) (started : os.Started) (H : Type) (enc : TypeId × Value → H) :
    ReturnsInHanded {} Tryd.checked os 3 .any (fun w args => (Rows.fnExactEventTextSpec.pre enc Tryd.prog Tryd.f3 [] false w args ∧ laidMetH Tryd.prog Rows.fnExactEventTextRow.laid w) ∧ sizedMet enc Tryd.prog Tryd.f3 (OpenSpec.ofChange Rows.fnExactEventTextSpec) false w args)
      (Rows.fnExactEventTextSpec.post enc Tryd.prog Tryd.f3 false true false false) := by
  refine returnsInHanded_of_change_and (C := Tryd.checked) (X := fun w _ => laidMetH Tryd.prog Rows.fnExactEventTextRow.laid w) (fun _ _ _ hh h => h.of_heap hh) own started (by kernel_rfl) Tryd.func3
    (ChangeSpec.witness_shaped (enc := enc) (C := Tryd.checked) (os := os) (X := fun w _ => laidMetH Tryd.prog Rows.fnExactEventTextRow.laid w) false (World.doorLaid Tryd.prog 24 os) #[.agg #[.int .i64 0, .bool false, .int .i64 0, .int .i64 0]] 8 rfl (World.shaped_of_RefB (by kernel_rfl) (by kernel_rfl)) (by kernel_rfl) (by kernel_rfl) (by kernel_rfl) (door_met os _)) ?_
  intro W base args ds gs before hval0 hW _ _ hL _
  have hval : ∀ (j : Nat) t v, Tryd.f3.params[j]? = some t → args[j]? = some v → Value.okWide Tryd.prog W .any base t v := hval0
  have hW' := hW
  obtain ⟨p, q, hA0, hV, rfl, hfz, hnd⟩ := hW
  have hA : DataW.TrodAll enc Tryd.prog W 0 (fun _ => true) true Tryd.f3.params.toList args.toList ds p := hA0
  rw [Tryd.params3] at hA hval
  obtain ⟨v0, vs0, d0, ds0, p0, q0, hargs, rfl, rfl, h0, r0⟩ := trodAll_cons hA
  obtain ⟨rfl, rfl, rfl⟩ := trodAll_nil r0
  obtain rfl : args = #[v0] := by cases args; simp_all
  obtain ⟨rfl, rfl⟩ := trodVars_none hV
  have k0 := h0
  have lt0 : ∀ x ∈ p0, x.block < W.heap.size := by obtain ⟨m, hm⟩ := k0; exact DataW.trod_lt m _ _ _ hm
  have a0 := open_Event (hval 0 23 v0 rfl rfl) h0
  clear hA0 hval0
  refine (walk v0 W (tab_of hL) a0).mono fun e W' ⟨he, bel⟩ => ?_
  subst he
  exact ⟨_, rfl, _, _, _, [], _, [], hW', trodAll_mk1 (shut_bool Tryd.underlying4 _), (trodAll_cons_mk (Below.trod laidOut (by kernel_rfl) (of_decide_eq_true (by kernel_rfl)) k0 bel lt0) trodAll_mk0), rfl, bel.frame _, fun h => by cases h⟩
theorem over : Rows.fnExactEventTextRow.holds Tryd.pinned (OpenSpec.ofChange Rows.fnExactEventTextSpec) :=
  OpenClaim.holds_of_wide 3 Tryd.f3 rfl rfl rfl rfl rfl rfl rfl ⟨rfl, rfl, rfl, rfl, rfl⟩ rfl rfl rfl rfl rfl (by kernel_rfl) Tryd.func3 (by kernel_rfl)
    (of_decide_eq_true (by kernel_rfl)) (by unfold Func.isWrapper; first | (rw [if_pos (by decide +kernel)]; kernel_rfl) | (rw [if_neg (by decide +kernel)]; exact ⟨rfl, rfl⟩))
    (fun os started H enc _ => lifted os started H enc)
theorem proved : Rows.FnExactEventTextCardSaid :=
  Claim7.holds_tied_plain_at .later [] Rows.fnExactEventTextCard.laidKinds true Rows.fnExactEventTextCard.stood.harness false
    over (fun _ h => by cases h) (by kernel_rfl) (fun _ h => by cases h) fnExactEventText_row_tie rfl ⟨rfl, rfl⟩ (by kernel_rfl) rfl
    (fun f fn hf hfn => by
      obtain rfl : f = 3 := Option.some.inj ((show Tryd.prog.funcNamed Rows.fnExactEventTextRow.func = some 3 by kernel_rfl).symm.trans hf) |>.symm
      obtain rfl : fn = Tryd.f3 := (Option.some.inj (Tryd.func3.symm.trans hfn)).symm
      exact ⟨by kernel_rfl, fun j t ht => by
        rw [Tryd.params3] at ht
        have hm : t ∈ [23] := by simpa using Array.mem_of_getElem? ht
        have hall : ([23].all fun u => !Tryd.prog.wantsStandIn u) = true := by kernel_rfl
        exact (show Tryd.prog.wantsStandIn t = false by simpa using List.all_eq_true.1 hall t hm)⟩)
    (by kernel_rfl)
end fnExactEventText
end Go.Proofs.YtddfdppoclnpcaaDoor
