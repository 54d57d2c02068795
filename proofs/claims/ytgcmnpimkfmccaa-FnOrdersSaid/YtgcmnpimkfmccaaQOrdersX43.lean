/- The law OrdersX: what it rests on, part 43 of 48. -/
import Derived.Test.YtgcmnpimkfmccaaQOrdersX42
namespace Go.Proofs.Ytgcmnpimkfmccaa
open Go.ChangeShapes Go.WideShapes Go.ChangeAt Go.RowKit
set_option linter.unusedSimpArgs false
set_option linter.unusedVariables false
theorem patR_snoc (X : List Part2) (xs : List Int) (tm : Int) (k : Nat) : patR (X ++ [(xs, tm)]) k = if k < X.length then patR X k else if k = X.length then xs else [] := by
  unfold patR
  by_cases h : k < X.length
  · rw [if_pos h, List.getD_eq_getElem?_getD, List.getElem?_append_left h, List.getD_eq_getElem?_getD]
  · rw [if_neg h]
    by_cases h2 : k = X.length
    · subst h2; simp [List.getD]
    · rw [if_neg h2, List.getD_eq_getElem?_getD, List.getElem?_eq_none (by simp; omega)]; rfl
theorem snoc_at {X : List Part2} {Y : List (Value × Int)} {xs : List Int} {tm : Int} {u : Value} {w wz : World} (h1 : Y.length = X.length) (h4 : ∀ i, i < X.length → (Y.getD i qZ).2 = (X.getD i pZ).2 ∧ RdI w (Y.getD i qZ).1 (X.getD i pZ).1) (hu : RdI w u xs) (i : Nat) (hi : i < (X ++ [(xs, tm)]).length) (hb : Below w.heap.size w wz) :
    ((Y ++ [(u, tm)]).getD i qZ).2 = ((X ++ [(xs, tm)]).getD i pZ).2 ∧ RdI wz ((Y ++ [(u, tm)]).getD i qZ).1 ((X ++ [(xs, tm)]).getD i pZ).1 := by
  rw [List.length_append, List.length_singleton] at hi
  by_cases hil : i < X.length
  · have eY : (Y ++ [(u, tm)]).getD i qZ = Y.getD i qZ := by rw [List.getD_eq_getElem?_getD, List.getElem?_append_left (by omega), List.getD_eq_getElem?_getD]
    have eX : (X ++ [(xs, tm)]).getD i pZ = X.getD i pZ := by rw [List.getD_eq_getElem?_getD, List.getElem?_append_left hil, List.getD_eq_getElem?_getD]
    rw [eY, eX]
    exact ⟨(h4 i hil).1, (h4 i hil).2.below hb⟩
  · obtain rfl : i = X.length := by omega
    have eY : (Y ++ [(u, tm)]).getD X.length qZ = (u, tm) := by rw [← h1]; simp [List.getD]
    have eX : (X ++ [(xs, tm)]).getD X.length pZ = (xs, tm) := by simp [List.getD]
    rw [eY, eX]
    exact ⟨rfl, hu.below hb⟩
set_option maxHeartbeats 16000000 in
set_option maxRecDepth 100000 in
theorem c_impl_AppendPart (X : List Part2) (H : Int) (v : Value) (xs : List Int) (tm : Int) (u : Value) (w : World) (hr : RdP w v X) (hu : RdI w u xs) :
    Calls Try.prog 13 #[.agg #[.int .i64 H, v], .agg #[u, .int .i64 tm]] w fun e w' => ∃ z, e = .returned (.tuple #[.agg #[.int .i64 (apH H X (xs, tm)), z], .int .i64 (apC H X (xs, tm))]) ∧ RdP w' z (apX H X (xs, tm)) ∧ Below w.heap.size w w' := by
  obtain ⟨W0, hW0, AB, PB, RB, B00, hsz0⟩ := threeBox w 26 34 26 (.int .i64 H) v u (.int .i64 tm) (.int .i64 0) (.slice none 0 0)
  have hr0 := hr.below B00
  have hu0 := hu.below B00
  have HR := Lib.hid hr
  have HU := Lib.hid hu
  obtain ⟨av, cv, rfl, hvl, -⟩ := hr
  obtain ⟨au, cu, rfl, hul, -⟩ := hu
  obtain ⟨LX, hLX⟩ : ∃ LX, X.length = LX := ⟨_, rfl⟩
  have HLX := Lib.hid hLX
  rw [hLX] at HR hvl AB hW0 hr0 ⊢
  have a0 := AB.c0
  have a1 := AB.c1
  go_enter Try.func13, Try.ntmps13
  go_wp2_with fail
  rw [← hW0]
  clear hW0
  refine (c_impl_ValidRoutine X H _ _ hr0).mono ?_; rintro e w1 ⟨rfl, hb1⟩
  replace a0 := keepc hb1 a0
  replace a1 := keepc hb1 a1
  replace AB := AB.below hb1
  replace PB := PB.below hb1
  replace RB := RB.below hb1
  have hu1 := hu0.below hb1
  have hs1 := hb1.size
  have B1 := B00.tr hb1
  clear hr0 hu0 B00 hb1
  cases hv : validR H X
  · obtain ⟨HC, HH, HX⟩ := ap_no (h := H) (X := X) (p := (xs, tm)) (c := 1) (by unfold apC; rw [hv]; rfl) (by decide)
    obtain ⟨TZ, gz⟩ := RB.set (.int .i64 0) (.slice none 0 0)
    have BZ := B1.grown gz B1.size (fun n e => by simp only [Option.some.injEq] at e; omega)
    have r0 := RB.c0
    have r1 := RB.c1
    have rf0 := RB.f0
    have rf1 := RB.f1
    clear hv
    go_wp2
    have X0 := TZ.c0
    have X1 := TZ.c1
    refine bodyPost_ret (v := .tuple #[.agg #[.int .i64 0, .slice none 0 0], .int .i64 1]) (by simp [results, Try.results13, go_sem, X0, X1]) rfl ⟨_, by rw [HC.out, HH.out], by rw [HX.out]; exact rdP_nil _, BZ⟩
  have R := rout_ok hv
  have hLb := R.hl
  have HXB : Hid (∀ k, k < X.length → (patR X k).length ≤ 1000000) := fun k hk => by have := (validP_iff.1 (R.hv k hk)).1.2; omega
  have hV0 := Lib.hid (R.hv 0 (by omega))
  rw [hLX] at hLb
  have HVR := Lib.hid hv
  have p0 := PB.c0
  have p1 := PB.c1
  clear hv R hLX
  go_wp2_with fail
  refine (c_impl_validPart xs tm H _ _ hu1).mono ?_; rintro e w2 ⟨rfl, hb2⟩
  replace AB := AB.below hb2
  replace PB := PB.below hb2
  replace RB := RB.below hb2
  have hs2 := hb2.size
  have B2 := B1.tr hb2
  clear hu1 B1 hb2 a0 a1 p0 p1
  have r0 := RB.c0
  have r1 := RB.c1
  have rf0 := RB.f0
  have rf1 := RB.f1
  cases hp : validPt H (xs, tm)
  · obtain ⟨HC, HH, HX⟩ := ap_no (h := H) (X := X) (p := (xs, tm)) (c := 1) (by unfold apC; rw [HVR.out, hp]; rfl) (by decide)
    obtain ⟨TZ, gz⟩ := RB.set (.int .i64 0) (.slice none 0 0)
    have BZ := B2.grown gz B2.size (fun n e => by simp only [Option.some.injEq] at e; omega)
    clear hp
    go_wp2
    have X0 := TZ.c0
    have X1 := TZ.c1
    refine bodyPost_ret (v := .tuple #[.agg #[.int .i64 0, .slice none 0 0], .int .i64 1]) (by simp [results, Try.results13, go_sem, X0, X1]) rfl ⟨_, by rw [HC.out, HH.out], by rw [HX.out]; exact rdP_nil _, BZ⟩
  have hVP := Lib.hid (validPt_ok hp)
  have HVP := Lib.hid hp
  clear hp
  obtain ⟨b0, o0, u0, rfl, z0, z1, hu00⟩ := rdP_at (HR.out.below B2) (show 0 < X.length by have := HLX.out; omega)
  simp only [Nat.zero_mul, Nat.add_zero] at z0 z1
  have hL0 : 0 < LX := by omega
  have hL1 : (0 : Int) < (LX : Int) := by omega
  have a1 := AB.c1
  have p0 := PB.c0
  obtain ⟨P1, hP1⟩ : ∃ P1, propsP xs = P1 := ⟨_, rfl⟩
  obtain ⟨P2, hP2⟩ : ∃ P2, propsP (patR X 0) = P2 := ⟨_, rfl⟩
  have HQ1 : Hid (∀ n, Calls Try.prog 49 #[.slice au xs.length cu] (w2.drewN n) fun e w'' => e = .returned (.int .i64 P1) ∧ ∃ m, w'' = w2.drewN m) := fun n => quiet_r (by have h := c_impl_propsOf xs (.slice au xs.length cu) (w2.drewN n) (HU.out.below (B2.drN n)) hVP.out; rw [hP1] at h; exact h)
  have HQ2 : Hid (∀ n, Calls Try.prog 49 #[u0] (w2.drewN n) fun e w'' => e = .returned (.int .i64 P2) ∧ ∃ m, w'' = w2.drewN m) := fun n => quiet_r (by have h := c_impl_propsOf (patR X 0) u0 (w2.drewN n) hu00 hV0.out; rw [hP2] at h; exact h)
  have B2d := fun n : Nat => B2.drN n
  by_cases hpp : P1 = P2
  rotate_left
  · have tn : (P1 != P2) = true := by simpa using hpp
    obtain ⟨HC, HH, HX⟩ := ap_no (h := H) (X := X) (p := (xs, tm)) (c := 6) (by unfold apC; rw [HVR.out, HVP.out]; show (bif propsP xs != propsP (patR X 0) then (6 : Int) else _) = 6; rw [hP1, hP2, tn]; rfl) (by decide)
    clear hpp hP1 hP2
    go_wp2_with fail
    go_quiet ((go_at_call 49; first | with_reducible exact HQ1.out _ | with_reducible exact HQ2.out _))
    obtain ⟨TZ, gz⟩ := (RB.below ((Below.refl _ _).drN nq)).set (.int .i64 0) (.slice none 0 0)
    have BZ := (B2d nq).grown gz (B2d nq).size (fun n e => by simp only [Option.some.injEq] at e; omega)
    go_wp2
    have X0 := TZ.c0
    have X1 := TZ.c1
    refine bodyPost_ret (v := .tuple #[.agg #[.int .i64 0, .slice none 0 0], .int .i64 6]) (by simp [results, Try.results13, go_sem, X0, X1]) rfl ⟨_, by rw [HC.out, HH.out], by rw [HX.out]; exact rdP_nil _, BZ⟩
  subst hpp
  by_cases h8 : 8 ≤ LX
  · obtain ⟨HC, HH, HX⟩ := ap_no (h := H) (X := X) (p := (xs, tm)) (c := 5) (by unfold apC; rw [HVR.out, HVP.out]; show (bif propsP xs != propsP (patR X 0) then (6 : Int) else bif decide (8 ≤ X.length) then 5 else 0) = 5; rw [hP1, hP2, HLX.out, decide_eq_true h8]; simp) (by decide)
    have h8' : ((LX : Int) == 8) = true := by rw [beq_iff_eq]; omega
    clear hP1 hP2
    go_wp2_with fail
    go_quiet ((go_at_call 49; first | with_reducible exact HQ1.out _ | with_reducible exact HQ2.out _))
    obtain ⟨TZ, gz⟩ := (RB.below ((Below.refl _ _).drN nq)).set (.int .i64 0) (.slice none 0 0)
    have BZ := (B2d nq).grown gz (B2d nq).size (fun n e => by simp only [Option.some.injEq] at e; omega)
    go_wp2
    have X0 := TZ.c0
    have X1 := TZ.c1
    refine bodyPost_ret (v := .tuple #[.agg #[.int .i64 0, .slice none 0 0], .int .i64 5]) (by simp [results, Try.results13, go_sem, X0, X1]) rfl ⟨_, by rw [HC.out, HH.out], by rw [HX.out]; exact rdP_nil _, BZ⟩
  have HC : Hid (apC H X (xs, tm) = 0) := by unfold Hid apC; rw [HVR.out, HVP.out]; show (bif propsP xs != propsP (patR X 0) then (6 : Int) else bif decide (8 ≤ X.length) then 5 else 0) = 0; rw [hP1, hP2, HLX.out, decide_eq_false h8]; simp
  have HH : Hid (apH H X (xs, tm) = H) := by unfold Hid apH; rw [HC.out]; rfl
  have HX : Hid (apX H X (xs, tm) = X ++ [(xs, tm)]) := by unfold Hid apX; rw [HC.out]; rfl
  have h8' : ((LX : Int) == 8) = false := beq_eq_false_iff_ne.2 (by omega)
  have hxl : xs.length ≤ 1000000 := by have h9 : 1 ≤ xs.length ∧ xs.length ≤ 12 := (validP_iff.1 hVP.out).1.2; omega
  clear hP1 hP2
  go_wp2_with fail
  go_quiet ((go_at_call 49; first | with_reducible exact HQ1.out _ | with_reducible exact HQ2.out _))
  replace AB := AB.below ((Below.refl _ _).drN nq)
  replace PB := PB.below ((Below.refl _ _).drN nq)
  replace RB := RB.below ((Below.refl _ _).drN nq)
  have B3 := B2d nq
  clear HQ1 HQ2 B2d B2 r0 r1 rf0 rf1 z0 z1 hu00 a1 p0
  replace hs2 : w1.heap.size ≤ (w2.drewN nq).heap.size := hs2
  generalize (w2.drewN nq) = w3 at *
  have a0 := AB.c0
  have a1 := AB.c1
  have af0 := AB.f0
  have af1 := AB.f1
  have p0 := PB.c0
  have p1 := PB.c1
  obtain ⟨Y, hY1e, hY2, hY3, hY4w⟩ := rdP_rows HR.out
  have hY1 : Y.length = LX := by rw [hY1e]; exact HLX.out
  have HY2 := Lib.hid hY2
  have HXB2 : Hid (∀ k, k < (X ++ [(xs, tm)]).length → (patR (X ++ [(xs, tm)]) k).length ≤ 1000000) := fun k hk => by
    rw [patR_snoc]
    split
    · exact HXB.out k (by assumption)
    · split
      · exact hxl
      · exact Nat.zero_le _
  clear hY2
  have a1d : w3.drew.cell? ⟨w.heap.size, 1, none⟩ = some (.slice (some ⟨b0, o0, none⟩) LX cv) := a1
  have ppd : w3.drew.cell? ⟨w.heap.size + 1, 0, none⟩ = some (.slice au xs.length cu) ∧ w3.drew.cell? ⟨w.heap.size + 1, 1, none⟩ = some (.int .i64 tm) := ⟨p0, p1⟩
  go_wp2_with fail
  
  refine wp_region_noPanic ?_; refine wp_region_L (S := untilL 3 8 (fun w' => w'.cell? ⟨w.heap.size, 1, none⟩ = some (.slice (some ⟨b0, o0, none⟩) LX cv)) (fun w' => w'.cell? ⟨w.heap.size + 1, 0, none⟩ = some (.slice au xs.length cu) ∧ w'.cell? ⟨w.heap.size + 1, 1, none⟩ = some (.int .i64 tm))) (by kernel_rfl) ?_
  (refine wpAnyL_take (S0 := (fun _ => True)) (i := 1) (q := 2) (v := ?lv1) rfl rfl (by kernel_rfl) (by kernel_rfl) (by kernel_rfl) (by kernel_rfl) (by kernel_rfl) (fun _ _ _ h => h) (fun _ _ _ _ => True.intro) (untilL_set (by decide) (by decide)) (Or.inl ⟨by rfl, ?lhy1⟩) ⟨fun _ => a1d, fun _ => ppd⟩ ?lrest1; case lhy1 => (intro w hSw; (try dsimp only at hSw); go_simp; (try with_reducible rfl)); (try simp only [Act.put, List.getElem_toArray, List.getElem_cons_zero, List.getElem_cons_succ, List.setIfInBounds_toArray, List.set_cons_zero, List.set_cons_succ])); (refine wpAnyL_take (S0 := (fun w' => w'.cell? ⟨w.heap.size, 1, none⟩ = some (.slice (some ⟨b0, o0, none⟩) LX cv))) (i := 2) (q := 3) (v := ?lv2) rfl rfl (by kernel_rfl) (by kernel_rfl) (by kernel_rfl) (by kernel_rfl) (by kernel_rfl) (fun _ _ _ h => h) (fun _ _ hq hS => hS.1 hq) (untilL_set (by decide) (by decide)) (Or.inl ⟨by rfl, ?lhy2⟩) ⟨fun _ => a1d, fun _ => ppd⟩ ?lrest2; case lhy2 => (intro w hSw; (try dsimp only at hSw); go_simp; (try with_reducible rfl)); (try simp only [Act.put, List.getElem_toArray, List.getElem_cons_zero, List.getElem_cons_succ, List.setIfInBounds_toArray, List.set_cons_zero, List.set_cons_succ])); (refine wpAnyL_take (S0 := (fun w' => w'.cell? ⟨w.heap.size + 1, 0, none⟩ = some (.slice au xs.length cu) ∧ w'.cell? ⟨w.heap.size + 1, 1, none⟩ = some (.int .i64 tm))) (i := 4) (q := 8) (v := ?lv3) rfl rfl (by kernel_rfl) (by kernel_rfl) (by kernel_rfl) (by kernel_rfl) (by kernel_rfl) (fun _ _ _ h => h) (fun _ _ hq hS => hS.2 hq) (untilL_set (by decide) (by decide)) (Or.inl ⟨by rfl, ?lhy3⟩) ⟨fun _ => a1d, fun _ => ppd⟩ ?lrest3; case lhy3 => (intro w hSw; (try dsimp only at hSw); go_simp; (try with_reducible rfl)); (try simp only [Act.put, List.getElem_toArray, List.getElem_cons_zero, List.getElem_cons_succ, List.setIfInBounds_toArray, List.set_cons_zero, List.set_cons_succ]))
  refine wpAnyL_ready (rs := [0, 5]) (by kernel_rfl) (by simp) ?_
  refine AllReadyL.cons (i := 0) rfl (fun K hK => ?_) (AllReadyL.cons (i := 5) rfl (fun K hK => ?_) AllReadyL.nil)
  · go_simp
    have hb1 : Below w3.heap.size w3 (w3.alloc (Obj.cells #[] 34)).drew := ((Below.refl _ _).al _).dr
    have fa1 : (w3.alloc (Obj.cells #[] 34)).drew.cell? ⟨w.heap.size, 1, none⟩ = some (.slice (some ⟨b0, o0, none⟩) LX cv) := keepc hb1 a1
    have fb1 : (w3.alloc (Obj.cells #[] 34)).drew.cell? ⟨w.heap.size + 1, 0, none⟩ = some (.slice au xs.length cu) ∧ (w3.alloc (Obj.cells #[] 34)).drew.cell? ⟨w.heap.size + 1, 1, none⟩ = some (.int .i64 tm) := ⟨keepc hb1 p0, keepc hb1 p1⟩
    
    refine hK.out _ _ ⟨(fun _ => fa1), (fun _ => fb1)⟩ (fun hHeld => ?_); clear hK K; (try simp only [Act.put, List.getElem_toArray, List.getElem_cons_zero, List.getElem_cons_succ, List.setIfInBounds_toArray, List.set_cons_zero, List.set_cons_succ])
    refine wpAnyL_ready (rs := [3, 5]) (by kernel_rfl) (by simp) ?_
    refine AllReadyL.cons (i := 3) rfl (fun K hK => ?_) (AllReadyL.cons (i := 5) rfl (fun K hK => ?_) AllReadyL.nil)
    rotate_left
    · go_simp
      have hb2 : Below w3.heap.size w3 ((w3.alloc (Obj.cells #[] 34)).alloc (Obj.cells #[.slice au xs.length cu, .int .i64 tm] 34)).drew := (((Below.refl _ _).al _).al _).dr
      have fa2 : ((w3.alloc (Obj.cells #[] 34)).alloc (Obj.cells #[.slice au xs.length cu, .int .i64 tm] 34)).drew.cell? ⟨w.heap.size, 1, none⟩ = some (.slice (some ⟨b0, o0, none⟩) LX cv) := keepc hb2 a1
      have fb2 : ((w3.alloc (Obj.cells #[] 34)).alloc (Obj.cells #[.slice au xs.length cu, .int .i64 tm] 34)).drew.cell? ⟨w.heap.size + 1, 0, none⟩ = some (.slice au xs.length cu) ∧ ((w3.alloc (Obj.cells #[] 34)).alloc (Obj.cells #[.slice au xs.length cu, .int .i64 tm] 34)).drew.cell? ⟨w.heap.size + 1, 1, none⟩ = some (.int .i64 tm) := ⟨keepc hb2 p0, keepc hb2 p1⟩
      
      refine hK.out _ _ ⟨(fun _ => fa2), (fun _ => fb2)⟩ (fun hHeld => ?_); clear hK K; (try simp only [Act.put, List.getElem_toArray, List.getElem_cons_zero, List.getElem_cons_succ, List.setIfInBounds_toArray, List.set_cons_zero, List.set_cons_succ])
      refine wpAnyL_ready (rs := [3]) (by kernel_rfl) (by simp) ?_; refine AllReadyL.cons (i := 3) rfl (fun K hK => ?_) AllReadyL.nil
      refine step_push_rowsN (row := rowQ) rfl _ _ _ _ rfl Try.underlying24 (.agg #[.slice none 0 0, .int .i64 0]) 32 infoQ rfl (by decide) (by decide) rowQ_len w3.heap.size (w3.heap.size + 1) (.slice (some ⟨w3.heap.size, 0, none⟩) 0 0) (.slice (some ⟨b0, o0, none⟩) LX cv) ([] : List (Value × Int)) Y ((w3.alloc (Obj.cells #[] 34)).alloc (Obj.cells #[.slice au xs.length cu, .int .i64 tm] 34)).drew hY3 rfl rfl (by exact (OwnRow.made (sz := 2) (row := rowQ) (E := 34) (lo := w3.heap.size) (a := w3) (xs := ([] : List (Value × Int))) rfl rfl (Nat.le_refl _)).al (Obj.cells #[.slice au xs.length cu, .int .i64 tm] 34)) (by exact HY2.out.below (B3.tr hb2)) (by omega) (by simp only [List.length_nil]; omega) hb2.size ?_
      intro v1 wx ho1 hg1 hat1 hs1
      rw [List.nil_append] at ho1
      have hbx : Below w3.heap.size w3 wx := hb2.grown hg1 hb2.size (fun n e => by simp only [Value.ownBlock, Option.some.injEq] at e; omega)
      have fa3 : wx.cell? ⟨w.heap.size, 1, none⟩ = some (.slice (some ⟨b0, o0, none⟩) LX cv) := keepc hbx a1
      have fb3 : wx.cell? ⟨w.heap.size + 1, 0, none⟩ = some (.slice au xs.length cu) ∧ wx.cell? ⟨w.heap.size + 1, 1, none⟩ = some (.int .i64 tm) := ⟨keepc hbx p0, keepc hbx p1⟩
      obtain ⟨a8, c8, hv8, -, -⟩ := ho1.rd rowQ_len
      rw [hY1] at hv8
      subst hv8
      
      refine hK.out _ _ ⟨(fun h => Bool.noConfusion (show true = false from h)), (fun _ => fb3)⟩ (fun hHeld => ?_); clear hK K; (try simp only [Act.put, List.getElem_toArray, List.getElem_cons_zero, List.getElem_cons_succ, List.setIfInBounds_toArray, List.set_cons_zero, List.set_cons_succ])
      
      have hblk : wx.heap[w3.heap.size + 1]? = some (.cells #[.slice au xs.length cu, .int .i64 tm] 34 (0, 0)) := by
          have h1 := heap_alloc_new (w3.alloc (Obj.cells #[] 34)) (Obj.cells #[.slice au xs.length cu, .int .i64 tm] 34)
          rw [World.size_alloc] at h1
          exact (hg1.block (w3.heap.size + 1) (by show w3.heap.size + 1 < ((w3.alloc (Obj.cells #[] 34)).alloc (Obj.cells #[.slice au xs.length cu, .int .i64 tm] 34)).heap.size; rw [World.size_alloc, World.size_alloc]; omega) (fun e => by simp only [Value.ownBlock, Option.some.injEq] at e; omega)).trans h1
      refine wpAnyL_ready (rs := [6]) (by kernel_rfl) (by simp) ?_; refine AllReadyL.cons (i := 6) rfl (fun K hK => ?_) AllReadyL.nil
      refine step_push_row (row := rowQ) rfl _ _ _ _ rfl Try.underlying24 (.agg #[.slice none 0 0, .int .i64 0]) 32 infoQ rfl (by decide) (by decide) rowQ_len w3.heap.size wx.heap.size (w3.heap.size + 1) (.slice a8 LX c8) Y (.slice au xs.length cu, tm) #[.slice au xs.length cu, .int .i64 tm] _ rfl (fun u hu => by simp only [rowQ, List.mem_cons, List.not_mem_nil, or_false] at hu; rcases hu with rfl | rfl <;> rfl) rfl rfl hblk ho1 (by omega) hbx.size ?_
      intro v2 w' ho2 hg2 hat2 hs2'
      have hbw : Below w3.heap.size w3 w' := hbx.grown hg2 hbx.size (fun n e => (World.ownsRow.lt ho1.1 n e).1)
      have fa5 : w'.cell? ⟨w.heap.size, 1, none⟩ = some (.slice (some ⟨b0, o0, none⟩) LX cv) := keepc hbw a1
      have fb5 : w'.cell? ⟨w.heap.size + 1, 0, none⟩ = some (.slice au xs.length cu) ∧ w'.cell? ⟨w.heap.size + 1, 1, none⟩ = some (.int .i64 tm) := ⟨keepc hbw p0, keepc hbw p1⟩
      have hL9 : (Y ++ [(Value.slice au xs.length cu, tm)]).length = LX + 1 := by simp [hY1]
      obtain ⟨a9, c9, hv9, -, -⟩ := ho2.rd rowQ_len
      rw [hL9] at hv9
      subst hv9
      have AB9 := AB.below hbw
      obtain ⟨AZ, gz⟩ := AB9.set1 (.slice a9 (LX + 1) c9)
      have PB9 := PB.below hbw
      have RZ := (RB.below hbw).grown gz (by simp only [ne_eq, Option.some.injEq]; omega)
      have BZ := (B3.tr hbw).grown gz (B3.tr hbw).size (fun n e => by simp only [Option.some.injEq] at e; omega)
      have hoz := ho2.upd (Upd.of_grown (lo := w.heap.size) (hi := w.heap.size + 1) gz (fun k hk => by simp only [Option.some.injEq] at hk; omega)) (Or.inr (by omega))
      have hrz := rdP_of_row (X := X ++ [(xs, tm)]) (by simp [hY1, HLX.out]) (hoz.rd rowQ_len) (fun i hi => snoc_at hY1e hY4w HU.out i hi BZ)
      have b1 := AB9.c1
      have bf1 := AB9.f1
      
      refine hK.out _ _ ⟨(fun h => Bool.noConfusion (show true = false from h)), (fun _ => fb5)⟩ (fun hHeld => ?_); clear hK K; (try simp only [Act.put, List.getElem_toArray, List.getElem_cons_zero, List.getElem_cons_succ, List.setIfInBounds_toArray, List.set_cons_zero, List.set_cons_succ])
      
      (refine wpAnyL_take (S0 := (fun _ => True)) (i := 7) (q := 8) (v := ?lv4) rfl rfl (by kernel_rfl) (by kernel_rfl) (by kernel_rfl) (by kernel_rfl) (by kernel_rfl) (fun _ _ _ h => h) (fun _ _ _ _ => True.intro) (untilL_set (by decide) (by decide)) (Or.inl ⟨by rfl, ?lhy4⟩) ⟨(fun h => Bool.noConfusion (show true = false from h)), fun _ => fb5⟩ ?lrest4; case lhy4 => (intro w hSw; (try dsimp only at hSw); go_simp; (try with_reducible rfl)); (try simp only [Act.put, List.getElem_toArray, List.getElem_cons_zero, List.getElem_cons_succ, List.setIfInBounds_toArray, List.set_cons_zero, List.set_cons_succ]))
      refine wpAnyL_ready (rs := [8]) (by kernel_rfl) (by simp) ?_; refine AllReadyL.cons (i := 8) rfl (fun K hK => ?_) AllReadyL.nil
      go_simp
      refine hK.out _ _ ⟨(fun h => Bool.noConfusion (show true = false from h)), (fun h => Bool.noConfusion (show true = false from h))⟩ (fun hHeld => ?_); clear hK K; (try simp only [Act.put, List.getElem_toArray, List.getElem_cons_zero, List.getElem_cons_succ, List.setIfInBounds_toArray, List.set_cons_zero, List.set_cons_succ])
      refine wpAnyL_done (by kernel_rfl) ?_ _; refine NoPanic.normal ?_
      clear b1 bf1
      have hwz3' : w3.heap.size ≤ (w'.setCell ⟨w.heap.size, 1, none⟩ (.slice a9 (LX + 1) c9)).heap.size := Nat.le_trans hbw.size gz.size
      generalize w'.setCell ⟨w.heap.size, 1, none⟩ (.slice a9 (LX + 1) c9) = wz at *
      have z0 := AZ.c0
      have z1 := AZ.c1
      go_wp2_with fail
      refine (c_impl_Routine_copied (X ++ [(xs, tm)]) H _ _ hrz HXB2.out (by simp [HLX.out]; omega)).mono ?_; rintro e w9 ⟨u9, rfl, hD9, hb9⟩
      replace RZ := RZ.below hb9
      have B9 := BZ.tr hb9
      have hs9 := hb9.size
      have hbzs := BZ.size
      obtain ⟨ao, co, hvo, -⟩ := hD9.rd
      rw [show (X ++ [(xs, tm)]).length = LX + 1 by simp [HLX.out]] at hvo
      subst hvo
      have r0 := RZ.c0
      have r1 := RZ.c1
      have rf0 := RZ.f0
      have rf1 := RZ.f1
      obtain ⟨QZ, gq⟩ := RZ.set (.int .i64 H) (.slice ao (LX + 1) co)
      have BQ := B9.grown gq B9.size (fun n e => by simp only [Option.some.injEq] at e; omega)
      have hwz3 : w3.heap.size ≤ wz.heap.size := hwz3'
      have DQ := (hD9.upd (Upd.of_grown (lo := w.heap.size + 2) (hi := w.heap.size + 3) gq (fun k hk => by simp only [Option.some.injEq] at hk; omega)) (Or.inr (by omega))).rd
      go_wp2
      have X0 := QZ.c0
      have X1 := QZ.c1
      refine bodyPost_ret (v := .tuple #[.agg #[.int .i64 H, .slice ao (LX + 1) co], .int .i64 0]) (by simp [results, Try.results13, go_sem, X0, X1]) rfl ⟨_, by rw [HC.out, HH.out], by rw [HX.out]; exact DQ, BQ⟩
    · refine step_push_rowsN (row := rowQ) rfl _ _ _ _ rfl Try.underlying24 (.agg #[.slice none 0 0, .int .i64 0]) 32 infoQ rfl (by decide) (by decide) rowQ_len w3.heap.size (w3.heap.size + 1) (.slice (some ⟨w3.heap.size, 0, none⟩) 0 0) (.slice (some ⟨b0, o0, none⟩) LX cv) ([] : List (Value × Int)) Y (w3.alloc (Obj.cells #[] 34)).drew hY3 rfl rfl (by exact (OwnRow.made (sz := 2) (row := rowQ) (E := 34) (lo := w3.heap.size) (a := w3) (xs := ([] : List (Value × Int))) rfl rfl (Nat.le_refl _))) (by exact HY2.out.below (B3.tr hb1)) (by omega) (by simp only [List.length_nil]; omega) hb1.size ?_
      intro v1 wx ho1 hg1 hat1 hs1
      rw [List.nil_append] at ho1
      have hbx : Below w3.heap.size w3 wx := hb1.grown hg1 hb1.size (fun n e => by simp only [Value.ownBlock, Option.some.injEq] at e; omega)
      have fa3 : wx.cell? ⟨w.heap.size, 1, none⟩ = some (.slice (some ⟨b0, o0, none⟩) LX cv) := keepc hbx a1
      have fb3 : wx.cell? ⟨w.heap.size + 1, 0, none⟩ = some (.slice au xs.length cu) ∧ wx.cell? ⟨w.heap.size + 1, 1, none⟩ = some (.int .i64 tm) := ⟨keepc hbx p0, keepc hbx p1⟩
      obtain ⟨a8, c8, hv8, -, -⟩ := ho1.rd rowQ_len
      rw [hY1] at hv8
      subst hv8
      
      refine hK.out _ _ ⟨(fun h => Bool.noConfusion (show true = false from h)), (fun _ => fb3)⟩ (fun hHeld => ?_); clear hK K; (try simp only [Act.put, List.getElem_toArray, List.getElem_cons_zero, List.getElem_cons_succ, List.setIfInBounds_toArray, List.set_cons_zero, List.set_cons_succ])
      
      refine wpAnyL_ready (rs := [5]) (by kernel_rfl) (by simp) ?_; refine AllReadyL.cons (i := 5) rfl (fun K hK => ?_) AllReadyL.nil
      go_simp
      have hb4 : Below w3.heap.size w3 (wx.alloc (Obj.cells #[.slice au xs.length cu, .int .i64 tm] 34)) := hbx.al _
      have fa4 : (wx.alloc (Obj.cells #[.slice au xs.length cu, .int .i64 tm] 34)).cell? ⟨w.heap.size, 1, none⟩ = some (.slice (some ⟨b0, o0, none⟩) LX cv) := keepc hb4 a1
      have fb4 : (wx.alloc (Obj.cells #[.slice au xs.length cu, .int .i64 tm] 34)).cell? ⟨w.heap.size + 1, 0, none⟩ = some (.slice au xs.length cu) ∧ (wx.alloc (Obj.cells #[.slice au xs.length cu, .int .i64 tm] 34)).cell? ⟨w.heap.size + 1, 1, none⟩ = some (.int .i64 tm) := ⟨keepc hb4 p0, keepc hb4 p1⟩
      
      refine hK.out _ _ ⟨(fun h => Bool.noConfusion (show true = false from h)), (fun _ => fb4)⟩ (fun hHeld => ?_); clear hK K; (try simp only [Act.put, List.getElem_toArray, List.getElem_cons_zero, List.getElem_cons_succ, List.setIfInBounds_toArray, List.set_cons_zero, List.set_cons_succ])
      refine wpAnyL_ready (rs := [6]) (by kernel_rfl) (by simp) ?_; refine AllReadyL.cons (i := 6) rfl (fun K hK => ?_) AllReadyL.nil
      refine step_push_row (row := rowQ) rfl _ _ _ _ rfl Try.underlying24 (.agg #[.slice none 0 0, .int .i64 0]) 32 infoQ rfl (by decide) (by decide) rowQ_len w3.heap.size wx.heap.size (wx.heap.size) (.slice a8 LX c8) Y (.slice au xs.length cu, tm) #[.slice au xs.length cu, .int .i64 tm] _ rfl (fun u hu => by simp only [rowQ, List.mem_cons, List.not_mem_nil, or_false] at hu; rcases hu with rfl | rfl <;> rfl) rfl rfl (heap_alloc_new wx _) (ho1.al _) (by omega) hb4.size ?_
      intro v2 w' ho2 hg2 hat2 hs2'
      have hbw : Below w3.heap.size w3 w' := hb4.grown hg2 hb4.size (fun n e => (World.ownsRow.lt ho1.1 n e).1)
      have fa5 : w'.cell? ⟨w.heap.size, 1, none⟩ = some (.slice (some ⟨b0, o0, none⟩) LX cv) := keepc hbw a1
      have fb5 : w'.cell? ⟨w.heap.size + 1, 0, none⟩ = some (.slice au xs.length cu) ∧ w'.cell? ⟨w.heap.size + 1, 1, none⟩ = some (.int .i64 tm) := ⟨keepc hbw p0, keepc hbw p1⟩
      have hL9 : (Y ++ [(Value.slice au xs.length cu, tm)]).length = LX + 1 := by simp [hY1]
      obtain ⟨a9, c9, hv9, -, -⟩ := ho2.rd rowQ_len
      rw [hL9] at hv9
      subst hv9
      have AB9 := AB.below hbw
      obtain ⟨AZ, gz⟩ := AB9.set1 (.slice a9 (LX + 1) c9)
      have PB9 := PB.below hbw
      have RZ := (RB.below hbw).grown gz (by simp only [ne_eq, Option.some.injEq]; omega)
      have BZ := (B3.tr hbw).grown gz (B3.tr hbw).size (fun n e => by simp only [Option.some.injEq] at e; omega)
      have hoz := ho2.upd (Upd.of_grown (lo := w.heap.size) (hi := w.heap.size + 1) gz (fun k hk => by simp only [Option.some.injEq] at hk; omega)) (Or.inr (by omega))
      have hrz := rdP_of_row (X := X ++ [(xs, tm)]) (by simp [hY1, HLX.out]) (hoz.rd rowQ_len) (fun i hi => snoc_at hY1e hY4w HU.out i hi BZ)
      have b1 := AB9.c1
      have bf1 := AB9.f1
      
      refine hK.out _ _ ⟨(fun h => Bool.noConfusion (show true = false from h)), (fun _ => fb5)⟩ (fun hHeld => ?_); clear hK K; (try simp only [Act.put, List.getElem_toArray, List.getElem_cons_zero, List.getElem_cons_succ, List.setIfInBounds_toArray, List.set_cons_zero, List.set_cons_succ])
      
      (refine wpAnyL_take (S0 := (fun _ => True)) (i := 7) (q := 8) (v := ?lv5) rfl rfl (by kernel_rfl) (by kernel_rfl) (by kernel_rfl) (by kernel_rfl) (by kernel_rfl) (fun _ _ _ h => h) (fun _ _ _ _ => True.intro) (untilL_set (by decide) (by decide)) (Or.inl ⟨by rfl, ?lhy5⟩) ⟨(fun h => Bool.noConfusion (show true = false from h)), fun _ => fb5⟩ ?lrest5; case lhy5 => (intro w hSw; (try dsimp only at hSw); go_simp; (try with_reducible rfl)); (try simp only [Act.put, List.getElem_toArray, List.getElem_cons_zero, List.getElem_cons_succ, List.setIfInBounds_toArray, List.set_cons_zero, List.set_cons_succ]))
      refine wpAnyL_ready (rs := [8]) (by kernel_rfl) (by simp) ?_; refine AllReadyL.cons (i := 8) rfl (fun K hK => ?_) AllReadyL.nil
      go_simp
      refine hK.out _ _ ⟨(fun h => Bool.noConfusion (show true = false from h)), (fun h => Bool.noConfusion (show true = false from h))⟩ (fun hHeld => ?_); clear hK K; (try simp only [Act.put, List.getElem_toArray, List.getElem_cons_zero, List.getElem_cons_succ, List.setIfInBounds_toArray, List.set_cons_zero, List.set_cons_succ])
      refine wpAnyL_done (by kernel_rfl) ?_ _; refine NoPanic.normal ?_
      clear b1 bf1
      have hwz3' : w3.heap.size ≤ (w'.setCell ⟨w.heap.size, 1, none⟩ (.slice a9 (LX + 1) c9)).heap.size := Nat.le_trans hbw.size gz.size
      generalize w'.setCell ⟨w.heap.size, 1, none⟩ (.slice a9 (LX + 1) c9) = wz at *
      have z0 := AZ.c0
      have z1 := AZ.c1
      go_wp2_with fail
      refine (c_impl_Routine_copied (X ++ [(xs, tm)]) H _ _ hrz HXB2.out (by simp [HLX.out]; omega)).mono ?_; rintro e w9 ⟨u9, rfl, hD9, hb9⟩
      replace RZ := RZ.below hb9
      have B9 := BZ.tr hb9
      have hs9 := hb9.size
      have hbzs := BZ.size
      obtain ⟨ao, co, hvo, -⟩ := hD9.rd
      rw [show (X ++ [(xs, tm)]).length = LX + 1 by simp [HLX.out]] at hvo
      subst hvo
      have r0 := RZ.c0
      have r1 := RZ.c1
      have rf0 := RZ.f0
      have rf1 := RZ.f1
      obtain ⟨QZ, gq⟩ := RZ.set (.int .i64 H) (.slice ao (LX + 1) co)
      have BQ := B9.grown gq B9.size (fun n e => by simp only [Option.some.injEq] at e; omega)
      have hwz3 : w3.heap.size ≤ wz.heap.size := hwz3'
      have DQ := (hD9.upd (Upd.of_grown (lo := w.heap.size + 2) (hi := w.heap.size + 3) gq (fun k hk => by simp only [Option.some.injEq] at hk; omega)) (Or.inr (by omega))).rd
      go_wp2
      have X0 := QZ.c0
      have X1 := QZ.c1
      refine bodyPost_ret (v := .tuple #[.agg #[.int .i64 H, .slice ao (LX + 1) co], .int .i64 0]) (by simp [results, Try.results13, go_sem, X0, X1]) rfl ⟨_, by rw [HC.out, HH.out], by rw [HX.out]; exact DQ, BQ⟩
  · go_simp
    have hb1 : Below w3.heap.size w3 (w3.alloc (Obj.cells #[.slice au xs.length cu, .int .i64 tm] 34)).drew := ((Below.refl _ _).al _).dr
    have fa1 : (w3.alloc (Obj.cells #[.slice au xs.length cu, .int .i64 tm] 34)).drew.cell? ⟨w.heap.size, 1, none⟩ = some (.slice (some ⟨b0, o0, none⟩) LX cv) := keepc hb1 a1
    have fb1 : (w3.alloc (Obj.cells #[.slice au xs.length cu, .int .i64 tm] 34)).drew.cell? ⟨w.heap.size + 1, 0, none⟩ = some (.slice au xs.length cu) ∧ (w3.alloc (Obj.cells #[.slice au xs.length cu, .int .i64 tm] 34)).drew.cell? ⟨w.heap.size + 1, 1, none⟩ = some (.int .i64 tm) := ⟨keepc hb1 p0, keepc hb1 p1⟩
    
    refine hK.out _ _ ⟨(fun _ => fa1), (fun _ => fb1)⟩ (fun hHeld => ?_); clear hK K; (try simp only [Act.put, List.getElem_toArray, List.getElem_cons_zero, List.getElem_cons_succ, List.setIfInBounds_toArray, List.set_cons_zero, List.set_cons_succ])
    refine wpAnyL_ready (rs := [0]) (by kernel_rfl) (by simp) ?_; refine AllReadyL.cons (i := 0) rfl (fun K hK => ?_) AllReadyL.nil
    go_simp
    have hb2 : Below w3.heap.size w3 ((w3.alloc (Obj.cells #[.slice au xs.length cu, .int .i64 tm] 34)).alloc (Obj.cells #[] 34)).drew := (((Below.refl _ _).al _).al _).dr
    have fa2 : ((w3.alloc (Obj.cells #[.slice au xs.length cu, .int .i64 tm] 34)).alloc (Obj.cells #[] 34)).drew.cell? ⟨w.heap.size, 1, none⟩ = some (.slice (some ⟨b0, o0, none⟩) LX cv) := keepc hb2 a1
    have fb2 : ((w3.alloc (Obj.cells #[.slice au xs.length cu, .int .i64 tm] 34)).alloc (Obj.cells #[] 34)).drew.cell? ⟨w.heap.size + 1, 0, none⟩ = some (.slice au xs.length cu) ∧ ((w3.alloc (Obj.cells #[.slice au xs.length cu, .int .i64 tm] 34)).alloc (Obj.cells #[] 34)).drew.cell? ⟨w.heap.size + 1, 1, none⟩ = some (.int .i64 tm) := ⟨keepc hb2 p0, keepc hb2 p1⟩
    
    refine hK.out _ _ ⟨(fun _ => fa2), (fun _ => fb2)⟩ (fun hHeld => ?_); clear hK K; (try simp only [Act.put, List.getElem_toArray, List.getElem_cons_zero, List.getElem_cons_succ, List.setIfInBounds_toArray, List.set_cons_zero, List.set_cons_succ])
    refine wpAnyL_ready (rs := [3]) (by kernel_rfl) (by simp) ?_; refine AllReadyL.cons (i := 3) rfl (fun K hK => ?_) AllReadyL.nil
    refine step_push_rowsN (row := rowQ) rfl _ _ _ _ rfl Try.underlying24 (.agg #[.slice none 0 0, .int .i64 0]) 32 infoQ rfl (by decide) (by decide) rowQ_len w3.heap.size ((w3.alloc (Obj.cells #[.slice au xs.length cu, .int .i64 tm] 34)).heap.size + 1) (.slice (some ⟨w3.heap.size + 1, 0, none⟩) 0 0) (.slice (some ⟨b0, o0, none⟩) LX cv) ([] : List (Value × Int)) Y ((w3.alloc (Obj.cells #[.slice au xs.length cu, .int .i64 tm] 34)).alloc (Obj.cells #[] 34)).drew hY3 rfl rfl (by exact (OwnRow.made (sz := 2) (row := rowQ) (E := 34) (lo := w3.heap.size) (a := w3.alloc (Obj.cells #[.slice au xs.length cu, .int .i64 tm] 34)) (xs := ([] : List (Value × Int))) rfl (by rw [World.size_alloc]) (by rw [World.size_alloc]; omega))) (by exact HY2.out.below (B3.tr hb2)) (by omega) (by simp only [List.length_nil]; omega) hb2.size ?_
    intro v1 wx ho1 hg1 hat1 hs1
    rw [List.nil_append] at ho1
    have hbx : Below w3.heap.size w3 wx := hb2.grown hg1 hb2.size (fun n e => by simp only [Value.ownBlock, Option.some.injEq] at e; omega)
    have fa3 : wx.cell? ⟨w.heap.size, 1, none⟩ = some (.slice (some ⟨b0, o0, none⟩) LX cv) := keepc hbx a1
    have fb3 : wx.cell? ⟨w.heap.size + 1, 0, none⟩ = some (.slice au xs.length cu) ∧ wx.cell? ⟨w.heap.size + 1, 1, none⟩ = some (.int .i64 tm) := ⟨keepc hbx p0, keepc hbx p1⟩
    obtain ⟨a8, c8, hv8, -, -⟩ := ho1.rd rowQ_len
    rw [hY1] at hv8
    subst hv8
    
    refine hK.out _ _ ⟨(fun h => Bool.noConfusion (show true = false from h)), (fun _ => fb3)⟩ (fun hHeld => ?_); clear hK K; (try simp only [Act.put, List.getElem_toArray, List.getElem_cons_zero, List.getElem_cons_succ, List.setIfInBounds_toArray, List.set_cons_zero, List.set_cons_succ])
    
    have hblk : wx.heap[w3.heap.size]? = some (.cells #[.slice au xs.length cu, .int .i64 tm] 34 (0, 0)) := by
          have h1 := heap_alloc_new w3 (Obj.cells #[.slice au xs.length cu, .int .i64 tm] 34)
          have h2 : Below (w3.heap.size + 1) (w3.alloc (Obj.cells #[.slice au xs.length cu, .int .i64 tm] 34)) ((w3.alloc (Obj.cells #[.slice au xs.length cu, .int .i64 tm] 34)).alloc (Obj.cells #[] 34)) := by
            have := (Below.refl (w3.alloc (Obj.cells #[.slice au xs.length cu, .int .i64 tm] 34)).heap.size (w3.alloc (Obj.cells #[.slice au xs.length cu, .int .i64 tm] 34))).al (Obj.cells #[] 34)
            rwa [World.size_alloc] at this
          exact (hg1.block w3.heap.size (by show w3.heap.size < ((w3.alloc (Obj.cells #[.slice au xs.length cu, .int .i64 tm] 34)).alloc (Obj.cells #[] 34)).heap.size; rw [World.size_alloc, World.size_alloc]; omega) (fun e => by simp only [Value.ownBlock, Option.some.injEq] at e; omega)).trans ((h2.block w3.heap.size (by omega)).trans h1)
    refine wpAnyL_ready (rs := [6]) (by kernel_rfl) (by simp) ?_; refine AllReadyL.cons (i := 6) rfl (fun K hK => ?_) AllReadyL.nil
    refine step_push_row (row := rowQ) rfl _ _ _ _ rfl Try.underlying24 (.agg #[.slice none 0 0, .int .i64 0]) 32 infoQ rfl (by decide) (by decide) rowQ_len w3.heap.size wx.heap.size (w3.heap.size) (.slice a8 LX c8) Y (.slice au xs.length cu, tm) #[.slice au xs.length cu, .int .i64 tm] _ rfl (fun u hu => by simp only [rowQ, List.mem_cons, List.not_mem_nil, or_false] at hu; rcases hu with rfl | rfl <;> rfl) rfl rfl hblk ho1 (by omega) hbx.size ?_
    intro v2 w' ho2 hg2 hat2 hs2'
    have hbw : Below w3.heap.size w3 w' := hbx.grown hg2 hbx.size (fun n e => (World.ownsRow.lt ho1.1 n e).1)
    have fa5 : w'.cell? ⟨w.heap.size, 1, none⟩ = some (.slice (some ⟨b0, o0, none⟩) LX cv) := keepc hbw a1
    have fb5 : w'.cell? ⟨w.heap.size + 1, 0, none⟩ = some (.slice au xs.length cu) ∧ w'.cell? ⟨w.heap.size + 1, 1, none⟩ = some (.int .i64 tm) := ⟨keepc hbw p0, keepc hbw p1⟩
    have hL9 : (Y ++ [(Value.slice au xs.length cu, tm)]).length = LX + 1 := by simp [hY1]
    obtain ⟨a9, c9, hv9, -, -⟩ := ho2.rd rowQ_len
    rw [hL9] at hv9
    subst hv9
    have AB9 := AB.below hbw
    obtain ⟨AZ, gz⟩ := AB9.set1 (.slice a9 (LX + 1) c9)
    have PB9 := PB.below hbw
    have RZ := (RB.below hbw).grown gz (by simp only [ne_eq, Option.some.injEq]; omega)
    have BZ := (B3.tr hbw).grown gz (B3.tr hbw).size (fun n e => by simp only [Option.some.injEq] at e; omega)
    have hoz := ho2.upd (Upd.of_grown (lo := w.heap.size) (hi := w.heap.size + 1) gz (fun k hk => by simp only [Option.some.injEq] at hk; omega)) (Or.inr (by omega))
    have hrz := rdP_of_row (X := X ++ [(xs, tm)]) (by simp [hY1, HLX.out]) (hoz.rd rowQ_len) (fun i hi => snoc_at hY1e hY4w HU.out i hi BZ)
    have b1 := AB9.c1
    have bf1 := AB9.f1
    
    refine hK.out _ _ ⟨(fun h => Bool.noConfusion (show true = false from h)), (fun _ => fb5)⟩ (fun hHeld => ?_); clear hK K; (try simp only [Act.put, List.getElem_toArray, List.getElem_cons_zero, List.getElem_cons_succ, List.setIfInBounds_toArray, List.set_cons_zero, List.set_cons_succ])
    
    (refine wpAnyL_take (S0 := (fun _ => True)) (i := 7) (q := 8) (v := ?lv6) rfl rfl (by kernel_rfl) (by kernel_rfl) (by kernel_rfl) (by kernel_rfl) (by kernel_rfl) (fun _ _ _ h => h) (fun _ _ _ _ => True.intro) (untilL_set (by decide) (by decide)) (Or.inl ⟨by rfl, ?lhy6⟩) ⟨(fun h => Bool.noConfusion (show true = false from h)), fun _ => fb5⟩ ?lrest6; case lhy6 => (intro w hSw; (try dsimp only at hSw); go_simp; (try with_reducible rfl)); (try simp only [Act.put, List.getElem_toArray, List.getElem_cons_zero, List.getElem_cons_succ, List.setIfInBounds_toArray, List.set_cons_zero, List.set_cons_succ]))
    refine wpAnyL_ready (rs := [8]) (by kernel_rfl) (by simp) ?_; refine AllReadyL.cons (i := 8) rfl (fun K hK => ?_) AllReadyL.nil
    go_simp
    refine hK.out _ _ ⟨(fun h => Bool.noConfusion (show true = false from h)), (fun h => Bool.noConfusion (show true = false from h))⟩ (fun hHeld => ?_); clear hK K; (try simp only [Act.put, List.getElem_toArray, List.getElem_cons_zero, List.getElem_cons_succ, List.setIfInBounds_toArray, List.set_cons_zero, List.set_cons_succ])
    refine wpAnyL_done (by kernel_rfl) ?_ _; refine NoPanic.normal ?_
    clear b1 bf1
    have hwz3' : w3.heap.size ≤ (w'.setCell ⟨w.heap.size, 1, none⟩ (.slice a9 (LX + 1) c9)).heap.size := Nat.le_trans hbw.size gz.size
    generalize w'.setCell ⟨w.heap.size, 1, none⟩ (.slice a9 (LX + 1) c9) = wz at *
    have z0 := AZ.c0
    have z1 := AZ.c1
    go_wp2_with fail
    refine (c_impl_Routine_copied (X ++ [(xs, tm)]) H _ _ hrz HXB2.out (by simp [HLX.out]; omega)).mono ?_; rintro e w9 ⟨u9, rfl, hD9, hb9⟩
    replace RZ := RZ.below hb9
    have B9 := BZ.tr hb9
    have hs9 := hb9.size
    have hbzs := BZ.size
    obtain ⟨ao, co, hvo, -⟩ := hD9.rd
    rw [show (X ++ [(xs, tm)]).length = LX + 1 by simp [HLX.out]] at hvo
    subst hvo
    have r0 := RZ.c0
    have r1 := RZ.c1
    have rf0 := RZ.f0
    have rf1 := RZ.f1
    obtain ⟨QZ, gq⟩ := RZ.set (.int .i64 H) (.slice ao (LX + 1) co)
    have BQ := B9.grown gq B9.size (fun n e => by simp only [Option.some.injEq] at e; omega)
    have hwz3 : w3.heap.size ≤ wz.heap.size := hwz3'
    have DQ := (hD9.upd (Upd.of_grown (lo := w.heap.size + 2) (hi := w.heap.size + 3) gq (fun k hk => by simp only [Option.some.injEq] at hk; omega)) (Or.inr (by omega))).rd
    go_wp2
    have X0 := QZ.c0
    have X1 := QZ.c1
    refine bodyPost_ret (v := .tuple #[.agg #[.int .i64 H, .slice ao (LX + 1) co], .int .i64 0]) (by simp [results, Try.results13, go_sem, X0, X1]) rfl ⟨_, by rw [HC.out, HH.out], by rw [HX.out]; exact DQ, BQ⟩
end Go.Proofs.Ytgcmnpimkfmccaa
