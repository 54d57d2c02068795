/- The law LinesX: what it rests on, part 23 of 46. -/
import Derived.Test.YtioemkdapoombaaGreatDoorQLinesX07
import Derived.Test.YtioemkdapoombaaGreatDoorQLinesX19
import Derived.Test.YtioemkdapoombaaGreatDoorQLinesX20
import Derived.Test.YtioemkdapoombaaGreatDoorQLinesX22
namespace Go.Proofs.YtioemkdapoombaaGreatDoor
open Go.ChangeShapes Go.WideShapes Go.ChangeAt Go.RowKit
set_option linter.unusedSimpArgs false
set_option linter.unusedVariables false
theorem c_spec_DrawStepName (bs : List Int) (v : Value) (w : World) (h : RdB w v bs) :
    Calls Tryz.prog 27 #[v] w fun e w' => ∃ k : Int, e = .returned (.int .i64 k) ∧ (-1 ≤ k ∧ k ≤ 8) ∧ Below w.heap.size w w' := by
  go_enter Tryz.func27, Tryz.ntmps27
  go_wp2_with fail
  refine (c_spec_l00From bs v _ h).mono ?_; rintro e w1 ⟨rfl, S1, hb1⟩
  go_wp2_with fail
  refine (c_spec_l00Src_pick w _ _ bs 10 _ S1 (by omega) (by omega)).mono ?_; rintro e w2 ⟨x, k2, rfl, hx0, hx1, -, hk2, S2, U2⟩
  have hx := hx1 (by omega)
  have hw : IntKind.i64.wrap (x - 1) = x - 1 := IntWalk.i64_in _ (by omega)
  go_wp2
  go_ret
  exact ⟨x - 1, rfl, by omega, S2.hb⟩
theorem ext_sz (s : ByteArray) (a b : Nat) : (s.extract a b).size ≤ s.size := by rw [ByteArray.size_extract]; omega
def spoilW : Nat → ByteArray
  | 0 => ⟨#[32]⟩
  | 1 => ⟨#[48]⟩
  | 2 => ⟨#[45]⟩
  | 3 => ⟨#[120]⟩
  | 4 => ⟨#[49]⟩
  | 5 => ⟨#[57]⟩
  | _ => ⟨#[46]⟩
theorem spoilW_sz (i : Nat) : (spoilW i).size = 1 := by
  match i with
  | 0 => rfl
  | 1 => rfl
  | 2 => rfl
  | 3 => rfl
  | 4 => rfl
  | 5 => rfl
  | n + 6 => rfl
set_option maxHeartbeats 8000000 in
set_option maxRecDepth 100000 in
theorem c_spec_l01Spoil (W0 : World) (g k : Nat) (bs : List Int) (t : ByteArray) (w : World) (h : Src W0 g bs k w) (hk : k < 500000) (ht : t.size ≤ 90000) :
    Calls Tryz.prog 94 #[.pointer (some ⟨g, 0, none⟩), .string t] w fun e w' => ∃ (t' : ByteArray) (k' : Nat), e = .returned (.string t') ∧ t'.size ≤ 3 * t.size + 1 ∧ k' ≤ k + 6 ∧ Src W0 g bs k' w' ∧ Upd g (g + 1) w w' := by
  have hgw := h.lt
  go_enter Tryz.func94, Tryz.ntmps94
  go_wp2_with fail
  refine (c_spec_l00Src_pick W0 g k bs 5 _ h (by omega) (by omega)).mono ?_; rintro e w1 ⟨x, k1, rfl, hx0, hx1, -, hk1, S1, U1⟩
  clear hx1 h
  have hs1 := U1.size
  by_cases h0 : x = 0
  · subst h0
    have hwl : IntKind.i64.wrap ((t.size : Int) + 1) = (t.size : Int) + 1 := IntWalk.i64_in _ (by omega)
    go_wp2_with fail
    refine (c_spec_l00Src_pick W0 g k1 bs ((t.size : Int) + 1) _ S1 (by omega) (by omega)).mono ?_; rintro e w2 ⟨y, k2, rfl, hy0, hy1, -, hk2, S2, U2⟩
    have hy := hy1 (by omega)
    obtain ⟨A, rfl⟩ : ∃ A : Nat, y = (A : Int) := ⟨y.toNat, by omega⟩
    have hA : A ≤ t.size := by omega
    have U2 := U1.trans U2
    clear hy1 S1 U1
    go_wp2_with fail
    have hs1' : ∀ w', (Instr.slice 9 (.string t) none (some (.int .i64 (A : Int))) none).run Tryz.prog w' = .ok (.string (t.extract 0 A)) w' := fun w' => by
      rw [run_slice_string_to_if (h := Tryz.underlying9), if_pos (by omega)]
      congr 3
    have hs2' : ∀ w', (Instr.slice 9 (.string t) (some (.int .i64 (A : Int))) none none).run Tryz.prog w' = .ok (.string (t.extract A t.size)) w' := fun w' => by
      rw [run_slice_string_from_if (h := Tryz.underlying9), if_pos (by omega)]
      congr 3
    obtain ⟨D1, hD1⟩ : ∃ D, t.extract 0 A = D := ⟨_, rfl⟩
    obtain ⟨D2, hD2⟩ : ∃ D, t.extract A t.size = D := ⟨_, rfl⟩
    have hz1 := ext_sz t 0 A
    have hz2 := ext_sz t A t.size
    rw [hD1] at hs1' hz1
    rw [hD2] at hs2' hz2
    clear hD1 hD2
    refine wp_region_noPanic ?_
    refine wp_region_held_drew (S := fun _ => True) (by kernel_rfl) ?_ (fun hHeld => ?_)
    · exact True.intro
    (refine wpAnyH_take (i := 0) (v := ?tv1) rfl (by kernel_rfl) (by kernel_rfl) (by kernel_rfl) (fun _ _ _ h => h) (Or.inl ⟨by rfl, ?thy1⟩) (by assumption) ?trest1; case thy1 => (intro w hSw; (try dsimp only at hSw); go_simp; (try with_reducible rfl)); (try simp only [Act.put, List.getElem_toArray, List.getElem_cons_zero, List.getElem_cons_succ, List.setIfInBounds_toArray, List.set_cons_zero, List.set_cons_succ])); (refine wpAnyH_take (i := 1) (v := ?tv2) rfl (by kernel_rfl) (by kernel_rfl) (by kernel_rfl) (fun _ _ _ h => h) (Or.inl ⟨by rfl, ?thy2⟩) (by assumption) ?trest2; case thy2 => (intro w hSw; (try dsimp only at hSw); go_simp; (try with_reducible rfl)); (try simp only [Act.put, List.getElem_toArray, List.getElem_cons_zero, List.getElem_cons_succ, List.setIfInBounds_toArray, List.set_cons_zero, List.set_cons_succ])); (refine wpAnyH_take (i := 2) (v := ?tv3) rfl (by kernel_rfl) (by kernel_rfl) (by kernel_rfl) (fun _ _ _ h => h) (Or.inl ⟨by rfl, ?thy3⟩) (by assumption) ?trest3; case thy3 => (intro w hSw; (try dsimp only at hSw); go_simp; (try with_reducible rfl)); (try simp only [Act.put, List.getElem_toArray, List.getElem_cons_zero, List.getElem_cons_succ, List.setIfInBounds_toArray, List.set_cons_zero, List.set_cons_succ])); (refine wpAnyH_take (i := 3) (v := ?tv4) rfl (by kernel_rfl) (by kernel_rfl) (by kernel_rfl) (fun _ _ _ h => h) (Or.inl ⟨by rfl, ?thy4⟩) (by assumption) ?trest4; case thy4 => (intro w hSw; (try dsimp only at hSw); go_simp; (try with_reducible rfl)); (try simp only [Act.put, List.getElem_toArray, List.getElem_cons_zero, List.getElem_cons_succ, List.setIfInBounds_toArray, List.set_cons_zero, List.set_cons_succ])); (refine wpAnyH_take (i := 7) (v := ?tv5) rfl (by kernel_rfl) (by kernel_rfl) (by kernel_rfl) (fun _ _ _ h => h) (Or.inl ⟨by rfl, ?thy5⟩) (by assumption) ?trest5; case thy5 => (intro w hSw; (try dsimp only at hSw); go_simp; (try with_reducible rfl)); (try simp only [Act.put, List.getElem_toArray, List.getElem_cons_zero, List.getElem_cons_succ, List.setIfInBounds_toArray, List.set_cons_zero, List.set_cons_succ])); (refine wpAnyH_take (i := 8) (v := ?tv6) rfl (by kernel_rfl) (by kernel_rfl) (by kernel_rfl) (fun _ _ _ h => h) (Or.inl ⟨by rfl, ?thy6⟩) (by assumption) ?trest6; case thy6 => (intro w hSw; (try dsimp only at hSw); go_simp; (try with_reducible rfl)); (try simp only [Act.put, List.getElem_toArray, List.getElem_cons_zero, List.getElem_cons_succ, List.setIfInBounds_toArray, List.set_cons_zero, List.set_cons_succ])); (refine wpAnyH_take (i := 9) (v := ?tv7) rfl (by kernel_rfl) (by kernel_rfl) (by kernel_rfl) (fun _ _ _ h => h) (Or.inl ⟨by rfl, ?thy7⟩) (by assumption) ?trest7; case thy7 => (intro w hSw; (try dsimp only at hSw); go_simp; (try with_reducible rfl)); (try simp only [Act.put, List.getElem_toArray, List.getElem_cons_zero, List.getElem_cons_succ, List.setIfInBounds_toArray, List.set_cons_zero, List.set_cons_succ]))
    refine wpAnyH_ready (rs := [4]) (by kernel_rfl) (by simp) ?_; refine AllReadyH.cons (i := 4) rfl (fun K hK => ?_) AllReadyH.nil
    go_simp
    have hb3 : Below w2.heap.size w2 (w2.alloc (Obj.cells #[.string ⟨#[32]⟩, .string ⟨#[48]⟩, .string ⟨#[45]⟩, .string ⟨#[120]⟩, .string ⟨#[49]⟩, .string ⟨#[57]⟩, .string ⟨#[46]⟩] 9)).drew := ((Below.refl _ _).al _).dr
    have S3 := S2.below hb3
    have U3 := U2.trans (Upd.of_below (lo := g) (hi := g + 1) hb3)
    have hc3 : Hid (∀ i, i < 7 → (w2.alloc (Obj.cells #[.string ⟨#[32]⟩, .string ⟨#[48]⟩, .string ⟨#[45]⟩, .string ⟨#[120]⟩, .string ⟨#[49]⟩, .string ⟨#[57]⟩, .string ⟨#[46]⟩] 9)).drew.cell? ⟨w2.heap.size, i, none⟩ = some (.string (spoilW i))) := fun i hi => by
      have : i = 0 ∨ i = 1 ∨ i = 2 ∨ i = 3 ∨ i = 4 ∨ i = 5 ∨ i = 6 := by omega
      rcases this with rfl | rfl | rfl | rfl | rfl | rfl | rfl <;> exact World.cell?_alloc_at _ _ _ _ rfl
    have hg2 := S2.lt
    refine hK.out _ _ True.intro (fun hHeld => ?_)
    clear hK K
    (try simp only [Act.put, List.setIfInBounds_toArray, List.set_cons_zero, List.set_cons_succ])
    refine wpAnyH_ready (rs := [5]) (by kernel_rfl) (by simp) ?_; refine AllReadyH.cons (i := 5) rfl (fun K hK => ?_) AllReadyH.nil
    go_simp
    refine (c_spec_l00Src_text W0 g k2 bs w2.heap.size 7 spoilW _ S3 (by omega) (by omega) (by omega) hc3).mono ?_; rintro e w4 ⟨i, k4, hi, rfl, hk4, S4, U4⟩
    have U5 := U3.trans U4
    have hzs := spoilW_sz i
    obtain ⟨D3, hD3⟩ : ∃ D, spoilW i = D := ⟨_, rfl⟩
    rw [hD3] at hzs ⊢
    have l1 : ¬ 9223372036854775807 < D1.size + D3.size := by omega
    have l2 : ¬ 9223372036854775807 < D1.size + 1 := by omega
    have l3 : ¬ 9223372036854775807 < D1.size + D3.size + D2.size := by omega
    have l4 : ¬ 9223372036854775807 < D1.size + 1 + D2.size := by omega
    refine hK.out _ _ True.intro (fun hHeld => ?_)
    clear hK K
    (try simp only [Act.put, List.setIfInBounds_toArray, List.set_cons_zero, List.set_cons_succ])
    (refine wpAnyH_take (i := 6) (v := ?tv8) rfl (by kernel_rfl) (by kernel_rfl) (by kernel_rfl) (fun _ _ _ h => h) (Or.inl ⟨by rfl, ?thy8⟩) (by assumption) ?trest8; case thy8 => (intro w hSw; (try dsimp only at hSw); go_simp; (try with_reducible rfl)); (try simp only [Act.put, List.getElem_toArray, List.getElem_cons_zero, List.getElem_cons_succ, List.setIfInBounds_toArray, List.set_cons_zero, List.set_cons_succ])); (refine wpAnyH_take (i := 10) (v := ?tv9) rfl (by kernel_rfl) (by kernel_rfl) (by kernel_rfl) (fun _ _ _ h => h) (Or.inl ⟨by rfl, ?thy9⟩) (by assumption) ?trest9; case thy9 => (intro w hSw; (try dsimp only at hSw); go_simp; (try with_reducible rfl)); (try simp only [Act.put, List.getElem_toArray, List.getElem_cons_zero, List.getElem_cons_succ, List.setIfInBounds_toArray, List.set_cons_zero, List.set_cons_succ])); (refine wpAnyH_take (i := 11) (v := ?tv10) rfl (by kernel_rfl) (by kernel_rfl) (by kernel_rfl) (fun _ _ _ h => h) (Or.inl ⟨by rfl, ?thy10⟩) (by assumption) ?trest10; case thy10 => (intro w hSw; (try dsimp only at hSw); go_simp; (try with_reducible rfl)); (try simp only [Act.put, List.getElem_toArray, List.getElem_cons_zero, List.getElem_cons_succ, List.setIfInBounds_toArray, List.set_cons_zero, List.set_cons_succ]))
    refine wpAnyH_done (by kernel_rfl) ?_ _
    refine NoPanic.normal ?_
    go_wp2
    go_ret
    exact ⟨(D1 ++ D3) ++ D2, k4, by first | rfl | simp, by rw [ByteArray.size_append, ByteArray.size_append]; omega, by omega, S4, U5⟩
  have t0 : (x == 0) = false := beq_eq_false_iff_ne.2 h0
  by_cases h1 : x = 1
  · subst h1
    by_cases hl : t.size = 0
    · have e0 : t.toList = [] := List.eq_nil_of_length_eq_zero (by rw [ByteArray.toList_eq]; exact hl)
      have e1 : t.toList.isEmpty = true := by rw [e0]; rfl
      clear hl
      go_wp2
      go_ret
      exact ⟨t, k1, rfl, by omega, by omega, S1, U1⟩
    · have hd : ¬ t.toList = [] := fun e => by
        rw [ByteArray.toList_eq] at e
        have h2 : t.size = t.data.toList.length := rfl
        rw [e] at h2
        exact hl h2
      have e1 : t.toList.isEmpty = false := by
        cases h3 : t.toList with
        | nil => exact absurd h3 hd
        | cons => rfl
      go_wp2_with fail
      refine (c_spec_l00Src_pick W0 g k1 bs (t.size : Int) _ S1 (by omega) (by omega)).mono ?_; rintro e w2 ⟨y, k2, rfl, hy0, hy1, -, hk2, S2, U2⟩
      have hy := hy1 (by omega)
      obtain ⟨A, rfl⟩ : ∃ A : Nat, y = (A : Int) := ⟨y.toNat, by omega⟩
      have hA : A < t.size := by omega
      have U2 := U1.trans U2
      clear hy1 S1 U1
      have hwA : IntKind.i64.wrap ((A : Int) + 1) = (A : Int) + 1 := IntWalk.i64_in _ (by omega)
      have hs1' : ∀ w', (Instr.slice 9 (.string t) none (some (.int .i64 (A : Int))) none).run Tryz.prog w' = .ok (.string (t.extract 0 A)) w' := fun w' => by
        rw [run_slice_string_to_if (h := Tryz.underlying9), if_pos (by omega)]
        congr 3
      have hs2' : ∀ w', (Instr.slice 9 (.string t) (some (.int .i64 ((A : Int) + 1))) none none).run Tryz.prog w' = .ok (.string (t.extract (A + 1) t.size)) w' := fun w' => by
        rw [run_slice_string_from_if (h := Tryz.underlying9), if_pos (by omega)]
        congr 3
      obtain ⟨D1, hD1⟩ : ∃ D, t.extract 0 A = D := ⟨_, rfl⟩
      obtain ⟨D2, hD2⟩ : ∃ D, t.extract (A + 1) t.size = D := ⟨_, rfl⟩
      have hz1 := ext_sz t 0 A
      have hz2 := ext_sz t (A + 1) t.size
      rw [hD1] at hs1' hz1
      rw [hD2] at hs2' hz2
      clear hD1 hD2
      have l1 : ¬ 9223372036854775807 < D1.size + D2.size := by omega
      go_wp2_with fail
      go_quiet (first | ((rw [hs1' _]; exact ⟨rfl, rfl⟩)) | ((rw [hs2' _]; exact ⟨rfl, rfl⟩)))
      go_wp2
      go_ret
      exact ⟨D1 ++ D2, k2, rfl, by rw [ByteArray.size_append]; omega, by omega, S2.below ((Below.refl _ _).drN _), U2.trans (Upd.of_below ((Below.refl _ _).drN _))⟩
  · have t1 : (x == 1) = false := beq_eq_false_iff_ne.2 h1
    clear h0 h1
    go_wp2
    go_ret
    exact ⟨t, k1, rfl, by omega, by omega, S1, U1⟩
end Go.Proofs.YtioemkdapoombaaGreatDoor
