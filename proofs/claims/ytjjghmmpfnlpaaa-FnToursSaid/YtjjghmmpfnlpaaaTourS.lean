/- Contract: the reference's shortest tour through a table. -/
import Derived.Test.YtjjghmmpfnlpaaaOrdI
import Derived.Test.YtjjghmmpfnlpaaaMemB
namespace Go.Proofs.Ytjjghmmpfnlpaaa
open Go.ChangeShapes Go.WideShapes Go.ChangeAt Go.RowKit
set_option linter.unusedSimpArgs false
set_option linter.unusedVariables false
def nilV : Value := .slice none 0 0
theorem take_row {L : List Int} {k : Nat} (hk : k < L.length) : L.take (k + 1) = L.take k ++ [L.getD k 0] := by
  rw [List.take_add_one, List.getElem?_eq_getElem hk]; simp [List.getD, hk]
theorem updS_below {D : Nat → Prop} {B : Nat} {a b c : World} (h : Below B a b) (u : UpdS D b c) (hB : B ≤ b.heap.size) (hD : ∀ k, D k → B ≤ k) : Below B a c :=
  h.trans (Upd.below (lo := B) (hi := b.heap.size) (u.upd (fun k hk d => ⟨hD k d, hk⟩)) (Nat.le_refl _) hB)
set_option maxHeartbeats 8000000 in
set_option maxRecDepth 100000 in
theorem c_spec_l23Tour (n : Nat) (D : Nat → Nat → Int) (v : Value) (w : World) (ht : RdTab n D w v) (hn : 1 ≤ n ∧ n ≤ 8) (hD : ∀ i j, i < n → j < n → 0 ≤ D i j ∧ D i j ≤ 1024) :
    Calls Try.prog 78 #[v] w fun e w' => ∃ u, e = .returned (.tuple #[u, .int .i64 (lstO 0 (tourO D n))]) ∧ OwnI1 w.heap.size w' u (bstO (tourO D n)) ∧ (∃ ad m cap, u = .slice (some ad) m cap) ∧ Below w.heap.size w w' := by
  have ht' := ht
  obtain ⟨at1, capt, rfl, hrt⟩ := ht'
  have HT := Lib.hid ht
  have HRT := Lib.hid hrt
  have HB := Lib.hid (tourF_bd hn hD)
  obtain ⟨q, hq, hqp, hql, hq0, hq1⟩ := tour_some hn hD
  have HQ := Lib.hid hq
  have HW : Hid (walkO (tourF D n) n [] 0 none = some q) := by unfold Hid; rw [tour_same hn hD]; exact hq
  have HF : Hid ((tourF D n).first.length = n) := by unfold Hid; simp [tourF]
  have HL : Hid ((tourF D n).last.length = n) := by unfold Hid; simp [tourF]
  have HFK : Hid (∀ k, k < n → (tourF D n).first.getD k 0 = if k = 0 then 0 else 1000000) := by
    intro k hk
    have e : (tourF D n).first.getD k 0 = if k < n then (if k = 0 then 0 else 1000000) else 0 := range_at n _ k
    rw [e, if_pos hk]
  have HLK : Hid (∀ k, k < n → (tourF D n).last.getD k 0 = D k 0) := by
    intro k hk
    have e : (tourF D n).last.getD k 0 = if k < n then D k 0 else 0 := range_at n _ k
    rw [e, if_pos hk]
  obtain ⟨F, HFF⟩ : ∃ F, Hid (tourF D n = F) := ⟨_, rfl⟩
  rw [HFF.out] at HF HL HFK HLK HW HB
  have hn1 := hn.1
  have hn2 := hn.2
  have hDD := Lib.hid hD
  clear ht hrt hD hq hqp hql hq0 hq1 hn
  have hnl : (n : Int) ≤ 8 := by omega
  go_enter Try.func78, Try.ntmps78
  go_wp2_with (at_make; refine make_bool rfl _ _ _ _ rfl Try.underlying40 (by kernel_rfl) w.heap.size _ _ _ _ _ n rfl rfl rfl rfl (by omega) (Nat.le_refl _) ?_; intro w1 hbs hbel hsz1; refine stop_of ?_)
  unfold Stopped
  have B1 := hbel w (Below.refl _ _)
  obtain ⟨R, HR⟩ : ∃ R : Nat → Value, Hid (R = fun i => if i = 0 then .slice at1 n capt else if i = 3 then .slice (some ⟨w.heap.size, 0, none⟩) n n else if i = 6 then .int .i64 (-1) else .slice none 0 0) := ⟨_, rfl⟩
  obtain ⟨W2, hW2⟩ : ∃ W2, W2 = w1.alloc (Obj.cells #[.slice at1 n capt, .slice none 0 0, .slice none 0 0, .slice (some ⟨w.heap.size, 0, none⟩) n n, .slice none 0 0, .slice none 0 0, .int .i64 (-1)] 85) := ⟨_, rfl⟩
  have BL : Bld 2 w1.heap.size w.heap.size n w R (fun _ => false) W2 (.slice none 0 0) (.slice none 0 0) (.slice none 0 0) (.slice none 0 0) [] [] := by
    have hal : Below w1.heap.size w1 W2 := by rw [hW2]; exact (Below.refl _ _).al _
    refine ⟨B1.tr hal, ?_, ?_, fun i hi h1 h2 => ?_, fun i hi => ?_, hbs.below hal, OwnI.nil _ rfl, OwnI.nil _ rfl, fun k hk => by simp [Value.ownBlock] at hk, fun k hk => by simp [Value.ownBlock] at hk, by omega, Nat.le_refl _, by omega⟩
    · rw [hW2]; exact World.cell?_alloc_at _ _ _ _ rfl
    · rw [hW2]; exact World.cell?_alloc_at _ _ _ _ rfl
    · rw [hW2, HR.out]
      have : i = 0 ∨ i = 3 ∨ i = 4 ∨ i = 5 ∨ i = 6 := by omega
      rcases this with rfl | rfl | rfl | rfl | rfl <;> exact World.cell?_alloc_at _ _ _ _ rfl
    · rw [hW2]; go_simp
  have hluW : w.heap.size < W2.heap.size := by rw [hW2]; simp; omega
  have HBL := Lib.hid BL
  clear BL hbs hbel
  obtain ⟨bo, Hbo⟩ : ∃ bo, Hid (w1.heap.size = bo) := ⟨_, rfl⟩
  have HBo : Hid (w1.heap.size = bo) := Hbo
  rw [Hbo.out] at HBL
  go_wp2_with fail
  rw [← hW2]
  rw [show w1.heap.size = bo from HBo.out]
  clear hW2
  go_loopw [6] (fun kv wr => ∃ k : Nat, k ≤ n ∧ kv = .int .i64 k ∧ ∃ v1 v2, Bld 2 bo w.heap.size n w R (fun _ => false) wr v1 v2 v1 v2 (F.first.take k) (F.last.take k)) (fun kv _ => n - (intOf kv).toNat)
  case atStart => exact ⟨0, by omega, rfl, _, _, by simpa using HBL.out⟩
  case round =>
    obtain ⟨k, hk, rfl, v1, v2, hM⟩ := hrel
    by_cases hlt : k < n
    · have HX1 : Hid (F.first.take (k + 1) = F.first.take k ++ [if k = 0 then 0 else 1000000]) := by
        unfold Hid
        rw [take_row (by rw [HF.out]; exact hlt), HFK.out k hlt]
      have HX2 : Hid (F.last.take (k + 1) = F.last.take k ++ [D k 0]) := by
        unfold Hid
        rw [take_row (by rw [HL.out]; exact hlt), HLK.out k hlt]
      have hl1 : (F.first.take k).length = k := by rw [List.length_take, HF.out]; omega
      have hl2 : (F.last.take k).length = k := by rw [List.length_take, HL.out]; omega
      obtain ⟨bt, ot, bi, oi, ci, rfl, y0, zr⟩ := HRT.out k hlt
      have y1 := zr 0 (by omega)
      rw [Nat.add_zero] at y1
      obtain ⟨DK, HDK⟩ : ∃ d, Hid (D k 0 = d) := ⟨_, rfl⟩
      rw [HDK.out] at y1 HX2
      obtain ⟨L1, HL1⟩ : ∃ L, Hid (F.first.take k = L) := ⟨_, rfl⟩
      obtain ⟨L2, HL2⟩ : ∃ L, Hid (F.last.take k = L) := ⟨_, rfl⟩
      rw [HL1.out] at hM hl1 HX1
      rw [HL2.out] at hM hl2 HX2
      have hin0 : (0 : Int) ≤ (k : Int) := by omega
      have hin1 : (k : Int) < (n : Int) := by omega
      have hinn : 0 < n := by omega
      obtain ⟨a1, p1, rfl, -, -⟩ := hM.o1.rd
      obtain ⟨a2, p2, rfl, -, -⟩ := hM.o2.rd
      rw [hl1, hl2] at hM
      have c1 := hM.c1
      have f1 := hM.fr 1 (by decide)
      have hs1 := hM.bel.size
      have hlu : w.heap.size < wr.heap.size := World.block_lt_of_cell? wr _ (hM.us 0 (by omega)).1
      have HM := Lib.hid hM
      have hkl1 : L1.length < 1000000000 := by omega
      have hkl2 : L2.length < 1000000000 := by omega
      have HLEN := Lib.hid (And.intro hl1 hl2)
      have HZ : Hid (w.cell? ⟨bt, ot + k, none⟩ = some (.slice (some ⟨bi, oi, none⟩) n ci) ∧ w.cell? ⟨bi, oi, none⟩ = some (.int .i64 DK)) := ⟨y0, y1⟩
      clear hM zr hl1 hl2 y0 y1
      by_cases hk0 : k = 0
      · have h0 : ((k : Int) == 0) = true := by first | (rw [beq_iff_eq]; omega) | (rw [beq_eq_false_iff_ne]; omega)
        obtain ⟨X, HX⟩ : ∃ X : Int, Hid ((if k = 0 then 0 else 1000000) = X) := ⟨_, rfl⟩
        first
          | (have hxx : X = 0 := by have := HX.out; rw [if_pos hk0] at this; exact this.symm)
          | (have hxx : X = 1000000 := by have := HX.out; rw [if_neg hk0] at this; exact this.symm)
        rw [HX.out] at HX1
        subst hxx
        have HK0 := Lib.hid hk0
        clear hk0
        go_wp2_with (at_builtin; refine push_int_at rfl _ _ _ _ rfl Try.underlying28 infoI w.heap.size _ L1 _ wr rfl rfl (by exact HM.out.o1) hkl1 hs1 ?_; intro v3 w3 ho3 hg3 hat3 hs3; refine stop_of ?_)
        unfold Stopped
        have M3 := HM.out.grow1 ho3 hg3 (by
          rcases hat3 with e | e
          · exact Or.inl e
          · refine Or.inr (fun q hq => ?_)
            rw [e] at hq
            simp only [Option.some.injEq] at hq
            omega) hlu
        rcases ho3.shape with ⟨-, hnil⟩ | ⟨g3, p3, rfl, -⟩
        · exact absurd hnil (by simp)
        have hl3 : ∀ x : Int, (L1 ++ [x]).length = k + 1 := fun x => by have := HLEN.out.1; simp; omega
        rw [hl3] at M3
        have c3 := M3.c1
        have f3 := M3.fr 1 (by decide)
        have M4 := M3.put1 (.slice (some ⟨g3, 0, none⟩) (k + 1) p3)
        have e2 := M4.c2
        obtain ⟨W4, HW4⟩ : ∃ W, Hid (W = w3.setCell ⟨bo, 1, none⟩ (.slice (some ⟨g3, 0, none⟩) (k + 1) p3)) := ⟨_, rfl⟩
        clear c1 f1
        go_wp2_with fail
        rw [← HW4.out] at M4 e2 ⊢
        have z0 := cellB M4.bel HZ.out.1
        have z1 := cellB M4.bel HZ.out.2
        have hs4 := M4.bel.size
        have hlu4 : w.heap.size < W4.heap.size := World.block_lt_of_cell? W4 _ (M4.us 0 (by omega)).1
        have H4 := Lib.hid M4
        have e2d : W4.drew.cell? ⟨bo, 2, none⟩ = some (.slice a2 k p2) := e2
        have zd : W4.drew.cell? ⟨bt, ot + k, none⟩ = some (.slice (some ⟨bi, oi, none⟩) n ci) ∧ W4.drew.cell? ⟨bi, oi, none⟩ = some (.int .i64 DK) := ⟨z0, z1⟩
        have e2a : ∀ ob, (W4.alloc ob).drew.cell? ⟨bo, 2, none⟩ = some (.slice a2 k p2) := fun ob => cellB (((Below.refl _ _).al _).dr) e2
        have zda : ∀ ob, (W4.alloc ob).drew.cell? ⟨bt, ot + k, none⟩ = some (.slice (some ⟨bi, oi, none⟩) n ci) ∧ (W4.alloc ob).drew.cell? ⟨bi, oi, none⟩ = some (.int .i64 DK) := fun ob => ⟨cellB (((Below.refl _ _).al _).dr) z0, cellB (((Below.refl _ _).al _).dr) z1⟩
        clear M3 M4 c3 f3 hs3 hat3 hg3 ho3 hs1 hlu
        
        refine wp_region_noPanic ?_; refine wp_region_L (S := untilL 12 15 (fun w' => w'.cell? ⟨bo, 2, none⟩ = some (.slice a2 k p2)) (fun w' => w'.cell? ⟨bt, ot + k, none⟩ = some (.slice (some ⟨bi, oi, none⟩) n ci) ∧ w'.cell? ⟨bi, oi, none⟩ = some (.int .i64 DK))) (by kernel_rfl) ?_
        (refine wpAnyL_take (S0 := (fun _ => True)) (i := 0) (q := 13) (v := ?lv1) rfl rfl (by kernel_rfl) (by kernel_rfl) (by kernel_rfl) (by kernel_rfl) (by kernel_rfl) (fun _ _ _ h => h) (fun _ _ _ _ => True.intro) (untilL_set (by decide) (by decide)) (Or.inl ⟨by rfl, ?lhy1⟩) ⟨fun _ => e2d, fun _ => zd⟩ ?lrest1; case lhy1 => (intro w hSw; (try dsimp only at hSw); go_simp; (try with_reducible rfl)); (try simp only [Act.put, List.getElem_toArray, List.getElem_cons_zero, List.getElem_cons_succ, List.setIfInBounds_toArray, List.set_cons_zero, List.set_cons_succ])); (refine wpAnyL_take (S0 := (fun _ => True)) (i := 1) (q := 2) (v := ?lv2) rfl rfl (by kernel_rfl) (by kernel_rfl) (by kernel_rfl) (by kernel_rfl) (by kernel_rfl) (fun _ _ _ h => h) (fun _ _ _ _ => True.intro) (untilL_set (by decide) (by decide)) (Or.inl ⟨by rfl, ?lhy2⟩) ⟨fun _ => e2d, fun _ => zd⟩ ?lrest2; case lhy2 => (intro w hSw; (try dsimp only at hSw); go_simp; (try with_reducible rfl)); (try simp only [Act.put, List.getElem_toArray, List.getElem_cons_zero, List.getElem_cons_succ, List.setIfInBounds_toArray, List.set_cons_zero, List.set_cons_succ])); (refine wpAnyL_take (S0 := (fun _ => True)) (i := 2) (q := 3) (v := ?lv3) rfl rfl (by kernel_rfl) (by kernel_rfl) (by kernel_rfl) (by kernel_rfl) (by kernel_rfl) (fun _ _ _ h => h) (fun _ _ _ _ => True.intro) (untilL_set (by decide) (by decide)) (Or.inl ⟨by rfl, ?lhy3⟩) ⟨fun _ => e2d, fun _ => zd⟩ ?lrest3; case lhy3 => (intro w hSw; (try dsimp only at hSw); go_simp; (try with_reducible rfl)); (try simp only [Act.put, List.getElem_toArray, List.getElem_cons_zero, List.getElem_cons_succ, List.setIfInBounds_toArray, List.set_cons_zero, List.set_cons_succ])); (refine wpAnyL_take (S0 := (fun _ => True)) (i := 3) (q := 4) (v := ?lv4) rfl rfl (by kernel_rfl) (by kernel_rfl) (by kernel_rfl) (by kernel_rfl) (by kernel_rfl) (fun _ _ _ h => h) (fun _ _ _ _ => True.intro) (untilL_set (by decide) (by decide)) (Or.inl ⟨by rfl, ?lhy4⟩) ⟨fun _ => e2d, fun _ => zd⟩ ?lrest4; case lhy4 => (intro w hSw; (try dsimp only at hSw); go_simp; (try with_reducible rfl)); (try simp only [Act.put, List.getElem_toArray, List.getElem_cons_zero, List.getElem_cons_succ, List.setIfInBounds_toArray, List.set_cons_zero, List.set_cons_succ])); (refine wpAnyL_take (S0 := (fun w' => w'.cell? ⟨bo, 2, none⟩ = some (.slice a2 k p2))) (i := 4) (q := 12) (v := ?lv5) rfl rfl (by kernel_rfl) (by kernel_rfl) (by kernel_rfl) (by kernel_rfl) (by kernel_rfl) (fun _ _ _ h => h) (fun _ _ hq hS => hS.1 hq) (untilL_set (by decide) (by decide)) (Or.inl ⟨by rfl, ?lhy5⟩) ⟨fun _ => e2d, fun _ => zd⟩ ?lrest5; case lhy5 => (intro w hSw; (try dsimp only at hSw); go_simp; (try with_reducible rfl)); (try simp only [Act.put, List.getElem_toArray, List.getElem_cons_zero, List.getElem_cons_succ, List.setIfInBounds_toArray, List.set_cons_zero, List.set_cons_succ])); (refine wpAnyL_take (S0 := (fun _ => True)) (i := 5) (q := 7) (v := ?lv6) rfl rfl (by kernel_rfl) (by kernel_rfl) (by kernel_rfl) (by kernel_rfl) (by kernel_rfl) (fun _ _ _ h => h) (fun _ _ _ _ => True.intro) (untilL_set (by decide) (by decide)) (Or.inl ⟨by rfl, ?lhy6⟩) ⟨fun _ => e2d, fun _ => zd⟩ ?lrest6; case lhy6 => (intro w hSw; (try dsimp only at hSw); go_simp; (try with_reducible rfl)); (try simp only [Act.put, List.getElem_toArray, List.getElem_cons_zero, List.getElem_cons_succ, List.setIfInBounds_toArray, List.set_cons_zero, List.set_cons_succ])); (refine wpAnyL_take (S0 := (fun _ => True)) (i := 6) (q := 7) (v := ?lv7) rfl rfl (by kernel_rfl) (by kernel_rfl) (by kernel_rfl) (by kernel_rfl) (by kernel_rfl) (fun _ _ _ h => h) (fun _ _ _ _ => True.intro) (untilL_set (by decide) (by decide)) (Or.inl ⟨by rfl, ?lhy7⟩) ⟨fun _ => e2d, fun _ => zd⟩ ?lrest7; case lhy7 => (intro w hSw; (try dsimp only at hSw); go_simp; (try with_reducible rfl)); (try simp only [Act.put, List.getElem_toArray, List.getElem_cons_zero, List.getElem_cons_succ, List.setIfInBounds_toArray, List.set_cons_zero, List.set_cons_succ])); (refine wpAnyL_take (S0 := (fun _ => True)) (i := 7) (q := 8) (v := ?lv8) rfl rfl (by kernel_rfl) (by kernel_rfl) (by kernel_rfl) (by kernel_rfl) (by kernel_rfl) (fun _ _ _ h => h) (fun _ _ _ _ => True.intro) (untilL_set (by decide) (by decide)) (Or.inl ⟨by rfl, ?lhy8⟩) ⟨fun _ => e2d, fun _ => zd⟩ ?lrest8; case lhy8 => (intro w hSw; (try dsimp only at hSw); go_simp; (try with_reducible rfl)); (try simp only [Act.put, List.getElem_toArray, List.getElem_cons_zero, List.getElem_cons_succ, List.setIfInBounds_toArray, List.set_cons_zero, List.set_cons_succ])); (refine wpAnyL_take (S0 := (fun w' => w'.cell? ⟨bt, ot + k, none⟩ = some (.slice (some ⟨bi, oi, none⟩) n ci) ∧ w'.cell? ⟨bi, oi, none⟩ = some (.int .i64 DK))) (i := 8) (q := 15) (v := ?lv9) rfl rfl (by kernel_rfl) (by kernel_rfl) (by kernel_rfl) (by kernel_rfl) (by kernel_rfl) (fun _ _ _ h => h) (fun _ _ hq hS => hS.2 hq) (untilL_set (by decide) (by decide)) (Or.inl ⟨by rfl, ?lhy9⟩) ⟨fun _ => e2d, fun _ => zd⟩ ?lrest9; case lhy9 => (intro w hSw; (try dsimp only at hSw); go_simp; (try with_reducible rfl)); (try simp only [Act.put, List.getElem_toArray, List.getElem_cons_zero, List.getElem_cons_succ, List.setIfInBounds_toArray, List.set_cons_zero, List.set_cons_succ])); (refine wpAnyL_take (S0 := (fun _ => True)) (i := 9) (q := 10) (v := ?lv10) rfl rfl (by kernel_rfl) (by kernel_rfl) (by kernel_rfl) (by kernel_rfl) (by kernel_rfl) (fun _ _ _ h => h) (fun _ _ _ _ => True.intro) (untilL_set (by decide) (by decide)) (Or.inl ⟨by rfl, ?lhy10⟩) ⟨fun _ => e2d, fun _ => zd⟩ ?lrest10; case lhy10 => (intro w hSw; (try dsimp only at hSw); go_simp; (try with_reducible rfl)); (try simp only [Act.put, List.getElem_toArray, List.getElem_cons_zero, List.getElem_cons_succ, List.setIfInBounds_toArray, List.set_cons_zero, List.set_cons_succ])); (refine wpAnyL_take (S0 := (fun w' => w'.cell? ⟨bt, ot + k, none⟩ = some (.slice (some ⟨bi, oi, none⟩) n ci) ∧ w'.cell? ⟨bi, oi, none⟩ = some (.int .i64 DK))) (i := 10) (q := 15) (v := ?lv11) rfl rfl (by kernel_rfl) (by kernel_rfl) (by kernel_rfl) (by kernel_rfl) (by kernel_rfl) (fun _ _ _ h => h) (fun _ _ hq hS => hS.2 hq) (untilL_set (by decide) (by decide)) (Or.inl ⟨by rfl, ?lhy11⟩) ⟨fun _ => e2d, fun _ => zd⟩ ?lrest11; case lhy11 => (intro w hSw; (try dsimp only at hSw); go_simp; (try with_reducible rfl)); (try simp only [Act.put, List.getElem_toArray, List.getElem_cons_zero, List.getElem_cons_succ, List.setIfInBounds_toArray, List.set_cons_zero, List.set_cons_succ]))
        refine wpAnyL_ready (rs := [11]) (by kernel_rfl) (by simp) ?_; refine AllReadyL.cons (i := 11) rfl (fun K hK => ?_) AllReadyL.nil
        go_simp
        refine hK.out _ _ ⟨(fun _ => e2a _), (fun _ => zda _)⟩ (fun hHeld => ?_); clear hK K; (try simp only [Act.put, List.getElem_toArray, List.getElem_cons_zero, List.getElem_cons_succ, List.setIfInBounds_toArray, List.set_cons_zero, List.set_cons_succ])
        refine wpAnyL_ready (rs := [12]) (by kernel_rfl) (by simp) ?_; refine AllReadyL.cons (i := 12) rfl (fun K hK => ?_) AllReadyL.nil
        refine step_push_i rfl _ _ _ rfl Try.underlying28 infoI w.heap.size _ L2 DK W4.heap.size _ rfl rfl ?_ (by exact (H4.out.below (((Below.refl _ _).al _).dr)).o2) hkl2 (by show w.heap.size ≤ (W4.alloc _).heap.size; rw [World.size_alloc]; exact Nat.le_succ_of_le hs4) ?_
        · exact World.cell?_alloc_at _ _ _ _ rfl
        intro v5 w5 ho5 hg5 hat5 hs5
        have M5 := (H4.out.below (((Below.refl _ _).al _).dr)).grow2 ho5 hg5 (by
          rcases hat5 with e | e
          · exact Or.inl e
          · refine Or.inr (fun q hq => ?_)
            rw [e] at hq
            simp only [Option.some.injEq] at hq
            exact Nat.le_of_eq hq) (by show w.heap.size < (W4.alloc _).heap.size; rw [World.size_alloc]; exact Nat.lt_succ_of_lt hlu4)
        rcases ho5.shape with ⟨-, hnil⟩ | ⟨g5, p5, rfl, -⟩
        · exact absurd hnil (by simp)
        have hl5 : (L2 ++ [DK]).length = k + 1 := by have := HLEN.out.2; simp; omega
        rw [hl5] at M5
        have c5 := M5.c2
        have f5 := M5.fr 2 (by decide)
        have M6 := Lib.hid (M5.put2 (.slice (some ⟨g5, 0, none⟩) (k + 1) p5))
        have zd5 : w5.cell? ⟨bt, ot + k, none⟩ = some (.slice (some ⟨bi, oi, none⟩) n ci) ∧ w5.cell? ⟨bi, oi, none⟩ = some (.int .i64 DK) := ⟨cellB M5.bel HZ.out.1, cellB M5.bel HZ.out.2⟩
        clear M5 hs5 hat5 hg5 ho5
        
        refine hK.out _ _ ⟨(fun h => Bool.noConfusion (show true = false from h)), (fun _ => zd5)⟩ (fun hHeld => ?_); clear hK K; (try simp only [Act.put, List.getElem_toArray, List.getElem_cons_zero, List.getElem_cons_succ, List.setIfInBounds_toArray, List.set_cons_zero, List.set_cons_succ])
        
        (refine wpAnyL_take (S0 := (fun _ => True)) (i := 13) (q := 14) (v := ?lv12) rfl rfl (by kernel_rfl) (by kernel_rfl) (by kernel_rfl) (by kernel_rfl) (by kernel_rfl) (fun _ _ _ h => h) (fun _ _ _ _ => True.intro) (untilL_set (by decide) (by decide)) (Or.inl ⟨by rfl, ?lhy12⟩) ⟨(fun h => Bool.noConfusion (show true = false from h)), fun _ => zd5⟩ ?lrest12; case lhy12 => (intro w hSw; (try dsimp only at hSw); go_simp; (try with_reducible rfl)); (try simp only [Act.put, List.getElem_toArray, List.getElem_cons_zero, List.getElem_cons_succ, List.setIfInBounds_toArray, List.set_cons_zero, List.set_cons_succ])); (refine wpAnyL_take (S0 := (fun _ => True)) (i := 14) (q := 15) (v := ?lv13) rfl rfl (by kernel_rfl) (by kernel_rfl) (by kernel_rfl) (by kernel_rfl) (by kernel_rfl) (fun _ _ _ h => h) (fun _ _ _ _ => True.intro) (untilL_set (by decide) (by decide)) (Or.inl ⟨by rfl, ?lhy13⟩) ⟨(fun h => Bool.noConfusion (show true = false from h)), fun _ => zd5⟩ ?lrest13; case lhy13 => (intro w hSw; (try dsimp only at hSw); go_simp; (try with_reducible rfl)); (try simp only [Act.put, List.getElem_toArray, List.getElem_cons_zero, List.getElem_cons_succ, List.setIfInBounds_toArray, List.set_cons_zero, List.set_cons_succ]))
        refine wpAnyL_ready (rs := [15]) (by kernel_rfl) (by simp) ?_; refine AllReadyL.cons (i := 15) rfl (fun K hK => ?_) AllReadyL.nil
        go_simp
        refine hK.out _ _ ⟨(fun h => Bool.noConfusion (show true = false from h)), (fun h => Bool.noConfusion (show true = false from h))⟩ (fun hHeld => ?_); clear hK K; (try simp only [Act.put, List.getElem_toArray, List.getElem_cons_zero, List.getElem_cons_succ, List.setIfInBounds_toArray, List.set_cons_zero, List.set_cons_succ])
        refine wpAnyL_done (by kernel_rfl) ?_ _; refine NoPanic.normal ?_
        go_wp2_with fail
        go_roundw
        case rel => exact ⟨k + 1, by omega, by go_num, _, _, by rw [HX1.out, HX2.out]; exact M6.out⟩
        case measure => simp [intOf]; omega
      · have h0 : ((k : Int) == 0) = false := by first | (rw [beq_iff_eq]; omega) | (rw [beq_eq_false_iff_ne]; omega)
        obtain ⟨X, HX⟩ : ∃ X : Int, Hid ((if k = 0 then 0 else 1000000) = X) := ⟨_, rfl⟩
        first
          | (have hxx : X = 0 := by have := HX.out; rw [if_pos hk0] at this; exact this.symm)
          | (have hxx : X = 1000000 := by have := HX.out; rw [if_neg hk0] at this; exact this.symm)
        rw [HX.out] at HX1
        subst hxx
        have HK0 := Lib.hid hk0
        clear hk0
        go_wp2_with (at_builtin; refine push_int_at rfl _ _ _ _ rfl Try.underlying28 infoI w.heap.size _ L1 _ wr rfl rfl (by exact HM.out.o1) hkl1 hs1 ?_; intro v3 w3 ho3 hg3 hat3 hs3; refine stop_of ?_)
        unfold Stopped
        have M3 := HM.out.grow1 ho3 hg3 (by
          rcases hat3 with e | e
          · exact Or.inl e
          · refine Or.inr (fun q hq => ?_)
            rw [e] at hq
            simp only [Option.some.injEq] at hq
            omega) hlu
        rcases ho3.shape with ⟨-, hnil⟩ | ⟨g3, p3, rfl, -⟩
        · exact absurd hnil (by simp)
        have hl3 : ∀ x : Int, (L1 ++ [x]).length = k + 1 := fun x => by have := HLEN.out.1; simp; omega
        rw [hl3] at M3
        have c3 := M3.c1
        have f3 := M3.fr 1 (by decide)
        have M4 := M3.put1 (.slice (some ⟨g3, 0, none⟩) (k + 1) p3)
        have e2 := M4.c2
        obtain ⟨W4, HW4⟩ : ∃ W, Hid (W = w3.setCell ⟨bo, 1, none⟩ (.slice (some ⟨g3, 0, none⟩) (k + 1) p3)) := ⟨_, rfl⟩
        clear c1 f1
        go_wp2_with fail
        rw [← HW4.out] at M4 e2 ⊢
        have z0 := cellB M4.bel HZ.out.1
        have z1 := cellB M4.bel HZ.out.2
        have hs4 := M4.bel.size
        have hlu4 : w.heap.size < W4.heap.size := World.block_lt_of_cell? W4 _ (M4.us 0 (by omega)).1
        have H4 := Lib.hid M4
        have e2d : W4.drew.cell? ⟨bo, 2, none⟩ = some (.slice a2 k p2) := e2
        have zd : W4.drew.cell? ⟨bt, ot + k, none⟩ = some (.slice (some ⟨bi, oi, none⟩) n ci) ∧ W4.drew.cell? ⟨bi, oi, none⟩ = some (.int .i64 DK) := ⟨z0, z1⟩
        have e2a : ∀ ob, (W4.alloc ob).drew.cell? ⟨bo, 2, none⟩ = some (.slice a2 k p2) := fun ob => cellB (((Below.refl _ _).al _).dr) e2
        have zda : ∀ ob, (W4.alloc ob).drew.cell? ⟨bt, ot + k, none⟩ = some (.slice (some ⟨bi, oi, none⟩) n ci) ∧ (W4.alloc ob).drew.cell? ⟨bi, oi, none⟩ = some (.int .i64 DK) := fun ob => ⟨cellB (((Below.refl _ _).al _).dr) z0, cellB (((Below.refl _ _).al _).dr) z1⟩
        clear M3 M4 c3 f3 hs3 hat3 hg3 ho3 hs1 hlu
        
        refine wp_region_noPanic ?_; refine wp_region_L (S := untilL 12 15 (fun w' => w'.cell? ⟨bo, 2, none⟩ = some (.slice a2 k p2)) (fun w' => w'.cell? ⟨bt, ot + k, none⟩ = some (.slice (some ⟨bi, oi, none⟩) n ci) ∧ w'.cell? ⟨bi, oi, none⟩ = some (.int .i64 DK))) (by kernel_rfl) ?_
        (refine wpAnyL_take (S0 := (fun _ => True)) (i := 0) (q := 13) (v := ?lv14) rfl rfl (by kernel_rfl) (by kernel_rfl) (by kernel_rfl) (by kernel_rfl) (by kernel_rfl) (fun _ _ _ h => h) (fun _ _ _ _ => True.intro) (untilL_set (by decide) (by decide)) (Or.inl ⟨by rfl, ?lhy14⟩) ⟨fun _ => e2d, fun _ => zd⟩ ?lrest14; case lhy14 => (intro w hSw; (try dsimp only at hSw); go_simp; (try with_reducible rfl)); (try simp only [Act.put, List.getElem_toArray, List.getElem_cons_zero, List.getElem_cons_succ, List.setIfInBounds_toArray, List.set_cons_zero, List.set_cons_succ])); (refine wpAnyL_take (S0 := (fun _ => True)) (i := 1) (q := 2) (v := ?lv15) rfl rfl (by kernel_rfl) (by kernel_rfl) (by kernel_rfl) (by kernel_rfl) (by kernel_rfl) (fun _ _ _ h => h) (fun _ _ _ _ => True.intro) (untilL_set (by decide) (by decide)) (Or.inl ⟨by rfl, ?lhy15⟩) ⟨fun _ => e2d, fun _ => zd⟩ ?lrest15; case lhy15 => (intro w hSw; (try dsimp only at hSw); go_simp; (try with_reducible rfl)); (try simp only [Act.put, List.getElem_toArray, List.getElem_cons_zero, List.getElem_cons_succ, List.setIfInBounds_toArray, List.set_cons_zero, List.set_cons_succ])); (refine wpAnyL_take (S0 := (fun _ => True)) (i := 2) (q := 3) (v := ?lv16) rfl rfl (by kernel_rfl) (by kernel_rfl) (by kernel_rfl) (by kernel_rfl) (by kernel_rfl) (fun _ _ _ h => h) (fun _ _ _ _ => True.intro) (untilL_set (by decide) (by decide)) (Or.inl ⟨by rfl, ?lhy16⟩) ⟨fun _ => e2d, fun _ => zd⟩ ?lrest16; case lhy16 => (intro w hSw; (try dsimp only at hSw); go_simp; (try with_reducible rfl)); (try simp only [Act.put, List.getElem_toArray, List.getElem_cons_zero, List.getElem_cons_succ, List.setIfInBounds_toArray, List.set_cons_zero, List.set_cons_succ])); (refine wpAnyL_take (S0 := (fun _ => True)) (i := 3) (q := 4) (v := ?lv17) rfl rfl (by kernel_rfl) (by kernel_rfl) (by kernel_rfl) (by kernel_rfl) (by kernel_rfl) (fun _ _ _ h => h) (fun _ _ _ _ => True.intro) (untilL_set (by decide) (by decide)) (Or.inl ⟨by rfl, ?lhy17⟩) ⟨fun _ => e2d, fun _ => zd⟩ ?lrest17; case lhy17 => (intro w hSw; (try dsimp only at hSw); go_simp; (try with_reducible rfl)); (try simp only [Act.put, List.getElem_toArray, List.getElem_cons_zero, List.getElem_cons_succ, List.setIfInBounds_toArray, List.set_cons_zero, List.set_cons_succ])); (refine wpAnyL_take (S0 := (fun w' => w'.cell? ⟨bo, 2, none⟩ = some (.slice a2 k p2))) (i := 4) (q := 12) (v := ?lv18) rfl rfl (by kernel_rfl) (by kernel_rfl) (by kernel_rfl) (by kernel_rfl) (by kernel_rfl) (fun _ _ _ h => h) (fun _ _ hq hS => hS.1 hq) (untilL_set (by decide) (by decide)) (Or.inl ⟨by rfl, ?lhy18⟩) ⟨fun _ => e2d, fun _ => zd⟩ ?lrest18; case lhy18 => (intro w hSw; (try dsimp only at hSw); go_simp; (try with_reducible rfl)); (try simp only [Act.put, List.getElem_toArray, List.getElem_cons_zero, List.getElem_cons_succ, List.setIfInBounds_toArray, List.set_cons_zero, List.set_cons_succ])); (refine wpAnyL_take (S0 := (fun _ => True)) (i := 5) (q := 7) (v := ?lv19) rfl rfl (by kernel_rfl) (by kernel_rfl) (by kernel_rfl) (by kernel_rfl) (by kernel_rfl) (fun _ _ _ h => h) (fun _ _ _ _ => True.intro) (untilL_set (by decide) (by decide)) (Or.inl ⟨by rfl, ?lhy19⟩) ⟨fun _ => e2d, fun _ => zd⟩ ?lrest19; case lhy19 => (intro w hSw; (try dsimp only at hSw); go_simp; (try with_reducible rfl)); (try simp only [Act.put, List.getElem_toArray, List.getElem_cons_zero, List.getElem_cons_succ, List.setIfInBounds_toArray, List.set_cons_zero, List.set_cons_succ])); (refine wpAnyL_take (S0 := (fun _ => True)) (i := 6) (q := 7) (v := ?lv20) rfl rfl (by kernel_rfl) (by kernel_rfl) (by kernel_rfl) (by kernel_rfl) (by kernel_rfl) (fun _ _ _ h => h) (fun _ _ _ _ => True.intro) (untilL_set (by decide) (by decide)) (Or.inl ⟨by rfl, ?lhy20⟩) ⟨fun _ => e2d, fun _ => zd⟩ ?lrest20; case lhy20 => (intro w hSw; (try dsimp only at hSw); go_simp; (try with_reducible rfl)); (try simp only [Act.put, List.getElem_toArray, List.getElem_cons_zero, List.getElem_cons_succ, List.setIfInBounds_toArray, List.set_cons_zero, List.set_cons_succ])); (refine wpAnyL_take (S0 := (fun _ => True)) (i := 7) (q := 8) (v := ?lv21) rfl rfl (by kernel_rfl) (by kernel_rfl) (by kernel_rfl) (by kernel_rfl) (by kernel_rfl) (fun _ _ _ h => h) (fun _ _ _ _ => True.intro) (untilL_set (by decide) (by decide)) (Or.inl ⟨by rfl, ?lhy21⟩) ⟨fun _ => e2d, fun _ => zd⟩ ?lrest21; case lhy21 => (intro w hSw; (try dsimp only at hSw); go_simp; (try with_reducible rfl)); (try simp only [Act.put, List.getElem_toArray, List.getElem_cons_zero, List.getElem_cons_succ, List.setIfInBounds_toArray, List.set_cons_zero, List.set_cons_succ])); (refine wpAnyL_take (S0 := (fun w' => w'.cell? ⟨bt, ot + k, none⟩ = some (.slice (some ⟨bi, oi, none⟩) n ci) ∧ w'.cell? ⟨bi, oi, none⟩ = some (.int .i64 DK))) (i := 8) (q := 15) (v := ?lv22) rfl rfl (by kernel_rfl) (by kernel_rfl) (by kernel_rfl) (by kernel_rfl) (by kernel_rfl) (fun _ _ _ h => h) (fun _ _ hq hS => hS.2 hq) (untilL_set (by decide) (by decide)) (Or.inl ⟨by rfl, ?lhy22⟩) ⟨fun _ => e2d, fun _ => zd⟩ ?lrest22; case lhy22 => (intro w hSw; (try dsimp only at hSw); go_simp; (try with_reducible rfl)); (try simp only [Act.put, List.getElem_toArray, List.getElem_cons_zero, List.getElem_cons_succ, List.setIfInBounds_toArray, List.set_cons_zero, List.set_cons_succ])); (refine wpAnyL_take (S0 := (fun _ => True)) (i := 9) (q := 10) (v := ?lv23) rfl rfl (by kernel_rfl) (by kernel_rfl) (by kernel_rfl) (by kernel_rfl) (by kernel_rfl) (fun _ _ _ h => h) (fun _ _ _ _ => True.intro) (untilL_set (by decide) (by decide)) (Or.inl ⟨by rfl, ?lhy23⟩) ⟨fun _ => e2d, fun _ => zd⟩ ?lrest23; case lhy23 => (intro w hSw; (try dsimp only at hSw); go_simp; (try with_reducible rfl)); (try simp only [Act.put, List.getElem_toArray, List.getElem_cons_zero, List.getElem_cons_succ, List.setIfInBounds_toArray, List.set_cons_zero, List.set_cons_succ])); (refine wpAnyL_take (S0 := (fun w' => w'.cell? ⟨bt, ot + k, none⟩ = some (.slice (some ⟨bi, oi, none⟩) n ci) ∧ w'.cell? ⟨bi, oi, none⟩ = some (.int .i64 DK))) (i := 10) (q := 15) (v := ?lv24) rfl rfl (by kernel_rfl) (by kernel_rfl) (by kernel_rfl) (by kernel_rfl) (by kernel_rfl) (fun _ _ _ h => h) (fun _ _ hq hS => hS.2 hq) (untilL_set (by decide) (by decide)) (Or.inl ⟨by rfl, ?lhy24⟩) ⟨fun _ => e2d, fun _ => zd⟩ ?lrest24; case lhy24 => (intro w hSw; (try dsimp only at hSw); go_simp; (try with_reducible rfl)); (try simp only [Act.put, List.getElem_toArray, List.getElem_cons_zero, List.getElem_cons_succ, List.setIfInBounds_toArray, List.set_cons_zero, List.set_cons_succ]))
        refine wpAnyL_ready (rs := [11]) (by kernel_rfl) (by simp) ?_; refine AllReadyL.cons (i := 11) rfl (fun K hK => ?_) AllReadyL.nil
        go_simp
        refine hK.out _ _ ⟨(fun _ => e2a _), (fun _ => zda _)⟩ (fun hHeld => ?_); clear hK K; (try simp only [Act.put, List.getElem_toArray, List.getElem_cons_zero, List.getElem_cons_succ, List.setIfInBounds_toArray, List.set_cons_zero, List.set_cons_succ])
        refine wpAnyL_ready (rs := [12]) (by kernel_rfl) (by simp) ?_; refine AllReadyL.cons (i := 12) rfl (fun K hK => ?_) AllReadyL.nil
        refine step_push_i rfl _ _ _ rfl Try.underlying28 infoI w.heap.size _ L2 DK W4.heap.size _ rfl rfl ?_ (by exact (H4.out.below (((Below.refl _ _).al _).dr)).o2) hkl2 (by show w.heap.size ≤ (W4.alloc _).heap.size; rw [World.size_alloc]; exact Nat.le_succ_of_le hs4) ?_
        · exact World.cell?_alloc_at _ _ _ _ rfl
        intro v5 w5 ho5 hg5 hat5 hs5
        have M5 := (H4.out.below (((Below.refl _ _).al _).dr)).grow2 ho5 hg5 (by
          rcases hat5 with e | e
          · exact Or.inl e
          · refine Or.inr (fun q hq => ?_)
            rw [e] at hq
            simp only [Option.some.injEq] at hq
            exact Nat.le_of_eq hq) (by show w.heap.size < (W4.alloc _).heap.size; rw [World.size_alloc]; exact Nat.lt_succ_of_lt hlu4)
        rcases ho5.shape with ⟨-, hnil⟩ | ⟨g5, p5, rfl, -⟩
        · exact absurd hnil (by simp)
        have hl5 : (L2 ++ [DK]).length = k + 1 := by have := HLEN.out.2; simp; omega
        rw [hl5] at M5
        have c5 := M5.c2
        have f5 := M5.fr 2 (by decide)
        have M6 := Lib.hid (M5.put2 (.slice (some ⟨g5, 0, none⟩) (k + 1) p5))
        have zd5 : w5.cell? ⟨bt, ot + k, none⟩ = some (.slice (some ⟨bi, oi, none⟩) n ci) ∧ w5.cell? ⟨bi, oi, none⟩ = some (.int .i64 DK) := ⟨cellB M5.bel HZ.out.1, cellB M5.bel HZ.out.2⟩
        clear M5 hs5 hat5 hg5 ho5
        
        refine hK.out _ _ ⟨(fun h => Bool.noConfusion (show true = false from h)), (fun _ => zd5)⟩ (fun hHeld => ?_); clear hK K; (try simp only [Act.put, List.getElem_toArray, List.getElem_cons_zero, List.getElem_cons_succ, List.setIfInBounds_toArray, List.set_cons_zero, List.set_cons_succ])
        
        (refine wpAnyL_take (S0 := (fun _ => True)) (i := 13) (q := 14) (v := ?lv25) rfl rfl (by kernel_rfl) (by kernel_rfl) (by kernel_rfl) (by kernel_rfl) (by kernel_rfl) (fun _ _ _ h => h) (fun _ _ _ _ => True.intro) (untilL_set (by decide) (by decide)) (Or.inl ⟨by rfl, ?lhy25⟩) ⟨(fun h => Bool.noConfusion (show true = false from h)), fun _ => zd5⟩ ?lrest25; case lhy25 => (intro w hSw; (try dsimp only at hSw); go_simp; (try with_reducible rfl)); (try simp only [Act.put, List.getElem_toArray, List.getElem_cons_zero, List.getElem_cons_succ, List.setIfInBounds_toArray, List.set_cons_zero, List.set_cons_succ])); (refine wpAnyL_take (S0 := (fun _ => True)) (i := 14) (q := 15) (v := ?lv26) rfl rfl (by kernel_rfl) (by kernel_rfl) (by kernel_rfl) (by kernel_rfl) (by kernel_rfl) (fun _ _ _ h => h) (fun _ _ _ _ => True.intro) (untilL_set (by decide) (by decide)) (Or.inl ⟨by rfl, ?lhy26⟩) ⟨(fun h => Bool.noConfusion (show true = false from h)), fun _ => zd5⟩ ?lrest26; case lhy26 => (intro w hSw; (try dsimp only at hSw); go_simp; (try with_reducible rfl)); (try simp only [Act.put, List.getElem_toArray, List.getElem_cons_zero, List.getElem_cons_succ, List.setIfInBounds_toArray, List.set_cons_zero, List.set_cons_succ]))
        refine wpAnyL_ready (rs := [15]) (by kernel_rfl) (by simp) ?_; refine AllReadyL.cons (i := 15) rfl (fun K hK => ?_) AllReadyL.nil
        go_simp
        refine hK.out _ _ ⟨(fun h => Bool.noConfusion (show true = false from h)), (fun h => Bool.noConfusion (show true = false from h))⟩ (fun hHeld => ?_); clear hK K; (try simp only [Act.put, List.getElem_toArray, List.getElem_cons_zero, List.getElem_cons_succ, List.setIfInBounds_toArray, List.set_cons_zero, List.set_cons_succ])
        refine wpAnyL_done (by kernel_rfl) ?_ _; refine NoPanic.normal ?_
        go_wp2_with fail
        go_roundw
        case rel => exact ⟨k + 1, by omega, by go_num, _, _, by rw [HX1.out, HX2.out]; exact M6.out⟩
        case measure => simp [intOf]; omega
    · obtain rfl : k = n := by omega
      rw [List.take_of_length_le (by rw [HF.out]; omega), List.take_of_length_le (by rw [HL.out]; omega)] at hM
      have hlu : w.heap.size < wr.heap.size := World.block_lt_of_cell? wr _ (hM.us 0 (by omega)).1
      have hDlt : ∀ j, (j = bo ∨ j = w.heap.size) → j < wr.heap.size := fun j hj => by
        rcases hj with rfl | rfl
        · exact hM.lbo
        · exact hlu
      have hA : SrchS w.heap.size bo w.heap.size k (fun j => j = bo ∨ j = w.heap.size) wr (R 0) v1 v2 wr (.slice none 0 0) [] (.slice none 0 0) none := by
        have r3 : R 3 = .slice (some ⟨w.heap.size, 0, none⟩) k k := by rw [HR.out]; rfl
        have r4 : R 4 = .slice none 0 0 := by rw [HR.out]; rfl
        have r5 : R 5 = .slice none 0 0 := by rw [HR.out]; rfl
        have r6 : R 6 = .int .i64 (-1) := by rw [HR.out]; rfl
        have m3 := hM.cr 3 (by decide) (by decide) (by decide)
        have m4 := hM.cr 4 (by decide) (by decide) (by decide)
        have m5 := hM.cr 5 (by decide) (by decide) (by decide)
        have m6 := hM.cr 6 (by decide) (by decide) (by decide)
        rw [r3] at m3; rw [r4] at m4; rw [r5] at m5; rw [r6] at m6
        exact ⟨⟨hM.cr 0 (by decide) (by decide) (by decide), hM.c1, hM.c2, m4, m3, m5, m6, hM.fr 4 (by decide), hM.fr 5 (by decide), hM.fr 6 (by decide), fun j hj => by have := hM.us j hj; simpa [memO] using this, OwnI.nil _ rfl, OwnI.nil _ rfl, fun j hj => by simp [Value.ownBlock] at hj, UpdS.refl _ _, Or.inl rfl, Or.inr rfl, hM.ne, hM.lbo, hlu, hM.bel.size, hDlt⟩, fun _ => rfl, fun p hp => by cases hp⟩
      have hRF : RdFar (fun j => j = bo ∨ j = w.heap.size) k wr (R 0) v1 v2 F := by
        have r0 : R 0 = .slice at1 k capt := by rw [HR.out]; rfl
        rw [r0]
        exact hM.far (by omega) HF.out HL.out HT.out (fun j hj => by
          rcases hj with rfl | rfl
          · exact ⟨hM.hbo, fun e => (hM.d1 _ e).1 rfl, fun e => (hM.d2 _ e).1 rfl⟩
          · exact ⟨Nat.le_refl _, fun e => (hM.d1 _ e).2.1 rfl, fun e => (hM.d2 _ e).2 rfl⟩) (fun i j hi hj => by rw [← HFF.out]; show ((costL k D).getD i []).getD j 0 = _; rw [cost_at, if_pos ⟨hi, hj⟩])
      have hbl := hM.bel
      have hbo := hM.hbo
      have HA := Lib.hid hA
      have HRF := Lib.hid hRF
      have HBE := Lib.hid hbl
      clear hM hA hRF hbl
      go_wp2_with fail
      refine (c_spec_walk _ _ _ _ _ _ _ _ _ F HRF.out HB.out k [] 0 _ _ none _ HA.out (PathO.nil k) (by simp) (by simp) NnO.none).mono ?_; rintro e w4 ⟨rfl, vo4, vb4, h4⟩
      rw [HW.out] at h4
      obtain ⟨ad, m4, cap4, rfl⟩ := h4.bs q rfl
      have c5 := h4.m.c5
      have c6 : w4.cell? ⟨bo, 6, none⟩ = some (.int .i64 q.2) := h4.m.c6
      have ob := h4.m.ob.base HBE.out.size
      have hfin := updS_below HBE.out h4.m.up HBE.out.size (fun j hj => by rcases hj with rfl | rfl <;> omega)
      have HOB := Lib.hid (And.intro ob hfin)
      clear h4 ob hfin
      go_wp2_with fail
      go_quiet (fail)
      go_wp2
      go_ret2
      exact ⟨_, by rw [HQ.out]; rfl, by rw [HQ.out]; exact HOB.out.1.below ((Below.refl _ _).drN _), ⟨_, _, _, rfl⟩, HOB.out.2.tr ((Below.refl _ _).drN _)⟩
end Go.Proofs.Ytjjghmmpfnlpaaa
