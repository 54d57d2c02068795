/- Contracts: the text of an event (program), with what it is. -/
import Derived.Test.YtgcmnpimkfmccaaDoorDoorF
namespace Go.Proofs.YtgcmnpimkfmccaaDoor
open Go.ChangeShapes Go.WideShapes Go.ChangeAt Go.RowKit
set_option linter.unusedVariables false
set_option linter.unusedSimpArgs false
def kindT (b : Bool) : ByteArray := bif b then ⟨#[116, 104, 114, 111, 119, 115]⟩ else ⟨#[99, 97, 116, 99, 104, 101, 115]⟩
def evT (t : Int) (b : Bool) (h p : Int) : ByteArray := if h = 0 ∨ h = 1 then decT t ++ spT ++ kindT b ++ spT ++ decT p ++ spT ++ handT h else ⟨#[]⟩
theorem ev_no {t : Int} {b : Bool} {h p : Int} (h0 : ¬ (h = 0 ∨ h = 1)) : Hid (evT t b h p = ⟨#[]⟩) := by unfold Hid evT; rw [if_neg h0]
theorem ev_yes {t : Int} {b : Bool} {h p : Int} (h0 : h = 0 ∨ h = 1) : Hid (evT t b h p = decT t ++ spT ++ kindT b ++ spT ++ decT p ++ spT ++ handT h) := by unfold Hid evT; rw [if_pos h0]
theorem c7_size : (⟨#[99, 97, 116, 99, 104, 101, 115]⟩ : ByteArray).size ≤ 7 := by decide
theorem t6_size : (⟨#[116, 104, 114, 111, 119, 115]⟩ : ByteArray).size ≤ 7 := by decide
theorem c9_size : (⟨#[32, 99, 97, 116, 99, 104, 101, 115, 32]⟩ : ByteArray).size ≤ 9 := by decide
theorem t8_size : (⟨#[32, 116, 104, 114, 111, 119, 115, 32]⟩ : ByteArray).size ≤ 9 := by decide
set_option maxHeartbeats 4000000 in
set_option maxRecDepth 100000 in
theorem c_impl_EventText (t : Int) (b : Bool) (h p : Int) (w : World) (ht : inI t) (hp : inI p) (hT : Tab w) :
    Calls Tryd.prog 10 #[.agg #[.int .i64 t, .bool b, .int .i64 h, .int .i64 p]] w fun e w' => e = .returned (.string (evT t b h p)) ∧ Below w.heap.size w w' := by
  obtain ⟨W0, hW0⟩ : ∃ W0, W0 = w.alloc (Obj.cells #[Value.int IntKind.i64 t, Value.bool b, Value.int IntKind.i64 h, Value.int IntKind.i64 p] 36) := ⟨_, rfl⟩
  have k0 : W0.cell? ⟨w.heap.size, 0, none⟩ = some (.int .i64 t) := by rw [hW0]; go_simp
  have k1 : W0.cell? ⟨w.heap.size, 1, none⟩ = some (.bool b) := by rw [hW0]; go_simp
  have k2 : W0.cell? ⟨w.heap.size, 2, none⟩ = some (.int .i64 h) := by rw [hW0]; go_simp
  have k3 : W0.cell? ⟨w.heap.size, 3, none⟩ = some (.int .i64 p) := by rw [hW0]; go_simp
  have B0 : Below w.heap.size w W0 := by rw [hW0]; (repeat (first | (with_reducible assumption) | (with_reducible exact Below.refl _ _) | (with_reducible refine Below.setCell ?_ (by first | (simp; done) | (simp; omega)) _) | (with_reducible refine Below.al ?_ _) | (with_reducible refine Below.dr ?_) | (with_reducible refine Below.drN ?_ _) | (with_reducible refine Below.tr ?_ (by with_reducible assumption))))
  have hTab := tab_below hT B0
  have hTabD : Tab W0.drew := hTab
  clear hT
  by_cases h01 : h = 0 ∨ h = 1
  · have HE := ev_yes (t := t) (b := b) (p := p) h01
    have hd1 := decT_size ht
    have hd2 := decT_size hp
    have hh5 := handT_size h
    obtain ⟨D1, HD1⟩ : ∃ D, Hid (decT t = D) := ⟨_, Lib.hid rfl⟩
    obtain ⟨D2, HD2⟩ : ∃ D, Hid (decT p = D) := ⟨_, Lib.hid rfl⟩
    obtain ⟨D3, HD3⟩ : ∃ D, Hid (handT h = D) := ⟨_, Lib.hid rfl⟩
    rw [HD1.out, HD2.out, HD3.out] at HE
    rw [HD1.out] at hd1
    rw [HD2.out] at hd2
    rw [HD3.out] at hh5
    unfold spT at HE
    have tn : (h != 0 && h != 1) = false := by rcases h01 with rfl | rfl <;> decide
    have tn0 : h = 0 → True := fun _ => True.intro
    have KF : Hid (kindT false = ⟨#[99, 97, 116, 99, 104, 101, 115]⟩) := rfl
    have KT : Hid (kindT true = ⟨#[116, 104, 114, 111, 119, 115]⟩) := rfl
    clear tn0
    cases b
    · have s1 : ¬ 9223372036854775807 < D1.size + 1 := by omega
      have s2 : ¬ 9223372036854775807 < D1.size + 1 + 7 := by omega
      have s3 : ¬ 9223372036854775807 < D1.size + 1 + 7 + 1 := by omega
      have s4 : ¬ 9223372036854775807 < D1.size + 1 + 7 + 1 + D2.size := by omega
      have s5 : ¬ 9223372036854775807 < D1.size + 1 + 7 + 1 + D2.size + 1 := by omega
      have s6 : ¬ 9223372036854775807 < D1.size + 1 + 7 + 1 + D2.size + 1 + D3.size := by omega
      rw [KF.out] at HE
      rcases h01 with h0 | h0
      all_goals
        subst h0
        go_enter Tryd.func10, Tryd.ntmps10
        go_wp2_with fail
        rw [← hW0]
        clear hW0
        go_region_held3 (fun w' => w'.cell? ⟨w.heap.size, 0, none⟩ = some (.int .i64 t) ∧ w'.cell? ⟨w.heap.size, 2, none⟩ = W0.cell? ⟨w.heap.size, 2, none⟩ ∧ w'.cell? ⟨w.heap.size, 3, none⟩ = some (.int .i64 p))
          (go_keep)
          (first
            | ((go_at_call 28; (with_reducible refine (c_decI t D1 HD1 _ ht hTabD).mono ?_); rintro e w1 ⟨rfl, hb1⟩; have hb1 := below_drew hb1; have c0 := keepc hb1 k0; have c2 := (keepc hb1 k2).trans k2.symm; have c3 := keepc hb1 k3; have hT1 := tab_below hTab hb1))
            | ((go_at_call 28; (with_reducible refine (c_decI p D2 HD2 _ hp hT1).mono ?_); rintro e w2 ⟨rfl, hb2⟩; have d0 := keepc hb2 c0; have d2 := (keepc hb2 (c2.trans k2)).trans k2.symm; have d3 := keepc hb2 c3))
            | ((go_at_call 29; refine (c_impl_handWord _ _).mono ?_; rintro e w3 ⟨rfl, rfl⟩; rw [HD3.out])))
        go_wp2
        go_ret
        exact ⟨by rw [HE.out]; rfl, (B0.tr hb1).tr hb2⟩
    · have s1 : ¬ 9223372036854775807 < D1.size + 1 := by omega
      have s2 : ¬ 9223372036854775807 < D1.size + 1 + 6 := by omega
      have s3 : ¬ 9223372036854775807 < D1.size + 1 + 6 + 1 := by omega
      have s4 : ¬ 9223372036854775807 < D1.size + 1 + 6 + 1 + D2.size := by omega
      have s5 : ¬ 9223372036854775807 < D1.size + 1 + 6 + 1 + D2.size + 1 := by omega
      have s6 : ¬ 9223372036854775807 < D1.size + 1 + 6 + 1 + D2.size + 1 + D3.size := by omega
      rw [KT.out] at HE
      rcases h01 with h0 | h0
      all_goals
        subst h0
        go_enter Tryd.func10, Tryd.ntmps10
        go_wp2_with fail
        rw [← hW0]
        clear hW0
        go_region_held3 (fun w' => w'.cell? ⟨w.heap.size, 0, none⟩ = some (.int .i64 t) ∧ w'.cell? ⟨w.heap.size, 2, none⟩ = W0.cell? ⟨w.heap.size, 2, none⟩ ∧ w'.cell? ⟨w.heap.size, 3, none⟩ = some (.int .i64 p))
          (go_keep)
          (first
            | ((go_at_call 28; (with_reducible refine (c_decI t D1 HD1 _ ht hTabD).mono ?_); rintro e w1 ⟨rfl, hb1⟩; have hb1 := below_drew hb1; have c0 := keepc hb1 k0; have c2 := (keepc hb1 k2).trans k2.symm; have c3 := keepc hb1 k3; have hT1 := tab_below hTab hb1))
            | ((go_at_call 28; (with_reducible refine (c_decI p D2 HD2 _ hp hT1).mono ?_); rintro e w2 ⟨rfl, hb2⟩; have d0 := keepc hb2 c0; have d2 := (keepc hb2 (c2.trans k2)).trans k2.symm; have d3 := keepc hb2 c3))
            | ((go_at_call 29; refine (c_impl_handWord _ _).mono ?_; rintro e w3 ⟨rfl, rfl⟩; rw [HD3.out])))
        go_wp2
        go_ret
        exact ⟨by rw [HE.out]; rfl, (B0.tr hb1).tr hb2⟩
  · have HE := ev_no (t := t) (b := b) (p := p) h01
    have t1 : (h != 0) = true := by
      have : h ≠ 0 := fun e => h01 (Or.inl e)
      simpa using this
    have t2 : (h != 1) = true := by
      have : h ≠ 1 := fun e => h01 (Or.inr e)
      simpa using this
    clear h01
    go_enter Tryd.func10, Tryd.ntmps10
    go_wp2
    go_ret
    exact ⟨by rw [HE.out]; rfl, by rw [← hW0]; exact B0⟩
theorem ev_pos {t : Int} {b : Bool} {h p : Int} (h0 : h = 0 ∨ h = 1) : (evT t b h p).toList.isEmpty = false ∧ ¬ (evT t b h p).toList = [] := by
  have hs : 0 < (evT t b h p).size := by
    rw [(ev_yes (t := t) (b := b) (p := p) h0).out]
    simp only [ByteArray.size_append]
    have : spT.size = 1 := rfl
    omega
  have hd : ∀ s : ByteArray, 0 < s.size → s.toList.isEmpty = false ∧ ¬ s.toList = [] := fun s h => by
    have hn : ¬ s.toList = [] := fun e => by
      rw [ByteArray.toList_eq] at e
      have h2 : s.size = s.data.toList.length := rfl
      rw [h2, e] at h
      exact Nat.lt_irrefl _ h
    refine ⟨?_, hn⟩
    cases h3 : s.toList with
    | nil => exact absurd h3 hn
    | cons => rfl
  exact hd _ hs
end Go.Proofs.YtgcmnpimkfmccaaDoor
