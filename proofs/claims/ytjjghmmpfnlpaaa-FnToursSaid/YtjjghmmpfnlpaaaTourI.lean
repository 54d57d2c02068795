/- Contract: the program's shortest tour through a table. -/
import Derived.Test.YtjjghmmpfnlpaaaTourS
namespace Go.Proofs.Ytjjghmmpfnlpaaa
open Go.ChangeShapes Go.WideShapes Go.ChangeAt Go.RowKit
set_option linter.unusedSimpArgs false
set_option linter.unusedVariables false
set_option maxHeartbeats 16000000 in
set_option maxRecDepth 100000 in
theorem c_impl_tour (X : List (List Int)) (h : Int) (v : Value) (w : World) (hr : RdG w v X) (hc : tabC X h = 0) (hx : 1 ≤ X.length) :
    Calls Try.prog 75 #[v, .int .i64 h] w fun e w' => ∃ u, e = .returned (.tuple #[u, .int .i64 (lstO 0 (tourO (tabD X h) X.length))]) ∧ OwnI1 w.heap.size w' u (bstO (tourO (tabD X h) X.length)) ∧ (∃ ad m cap, u = .slice (some ad) m cap) ∧ Below w.heap.size w w' := by
  have hn : 1 ≤ X.length ∧ X.length ≤ 8 := ⟨hx, (tab_ok hc).2.1⟩
  have hD : ∀ i j, i < X.length → j < X.length → 0 ≤ tabD X h i j ∧ tabD X h i j ≤ 1024 := tab_far hc
  have HR0 := Lib.hid hr
  have HC0 := Lib.hid hc
  obtain ⟨av, capv, rfl, -, -⟩ := hr
  obtain ⟨n, Hn⟩ : ∃ n, Hid (X.length = n) := ⟨_, rfl⟩
  obtain ⟨D, HDf⟩ : ∃ D, Hid (tabD X h = D) := ⟨_, rfl⟩
  rw [Hn.out] at hn hD
  rw [HDf.out] at hD
  rw [Hn.out, HDf.out]
  have HB := Lib.hid (tourG_bd hn hD)
  obtain ⟨q, hq, hqp, hql, hq0, hq1⟩ := tour_some hn hD
  have HQ := Lib.hid hq
  have HW : Hid (walkO (tourG D n) (n - 1) [0] 0 none = some q) := hq
  have HF : Hid ((tourG D n).first.length = n) := by unfold Hid; simp [tourG]
  have HL : Hid ((tourG D n).last.length = n) := by unfold Hid; simp [tourG]
  have HFK : Hid (∀ k, k < n → (tourG D n).first.getD k 0 = 0) := by
    intro k hk
    show (List.replicate n (0 : Int)).getD k 0 = 0
    simp [List.getD, hk]
  have HLK : Hid (∀ k, k < n → (tourG D n).last.getD k 0 = D k 0) := by
    intro k hk
    have e : (tourG D n).last.getD k 0 = if k < n then D k 0 else 0 := range_at n _ k
    rw [e, if_pos hk]
  obtain ⟨F, HFF⟩ : ∃ F, Hid (tourG D n = F) := ⟨_, rfl⟩
  rw [HFF.out] at HF HL HFK HLK HW HB
  have hn1 := hn.1
  have hn2 := hn.2
  clear hc hx hD hq hqp hql hq0 hq1 hn
  have hnl : (n : Int) ≤ 8 := by omega
  go_enter Try.func75, Try.ntmps75
  go_wp2_with fail
  refine (c_impl_table X h _ _ (by rw [← Hn.out]; exact HR0.out) HC0.out).mono ?_; rintro e w0 ⟨u0, rfl, hog, hb0⟩
  have ht := tab_rd hog.rd
  rw [Hn.out, HDf.out] at ht
  have ht' := ht
  obtain ⟨at1, capt, rfl, hrt⟩ := ht'
  have HT := Lib.hid ht
  have HRT := Lib.hid hrt
  have HB0 := Lib.hid hb0
  clear ht hrt hog hb0
  go_wp2_with (at_make; refine make_bool rfl _ _ _ _ rfl Try.underlying40 (by kernel_rfl) w0.heap.size _ _ _ _ _ n rfl rfl rfl rfl (by omega) (Nat.le_refl _) ?_; intro w1 hbs hbel hsz1; refine stop_of ?_)
  unfold Stopped
  have B1 := hbel w0 (Below.refl _ _)
  obtain ⟨R, HR⟩ : ∃ R : Nat → Value, Hid (R = fun i => if i = 0 then .slice at1 n capt else if i = 4 then .slice (some ⟨w0.heap.size, 0, none⟩) n n else if i = 6 then .int .i64 0 else .slice none 0 0) := ⟨_, rfl⟩
  obtain ⟨W2, hW2⟩ : ∃ W2, W2 = w1.alloc (Obj.cells #[.slice at1 n capt, .slice none 0 0, .slice none 0 0, .slice none 0 0, .slice (some ⟨w0.heap.size, 0, none⟩) n n, .slice none 0 0, .int .i64 0] 76) := ⟨_, rfl⟩
  have BL : Bld 2 w1.heap.size w0.heap.size n w0 R (fun _ => false) W2 (.slice none 0 0) (.slice none 0 0) (.slice none 0 0) (.slice none 0 0) [] [] := by
    have hal : Below w1.heap.size w1 W2 := by rw [hW2]; exact (Below.refl _ _).al _
    refine ⟨B1.tr hal, ?_, ?_, fun i hi h1 h2 => ?_, fun i hi => ?_, hbs.below hal, OwnI.nil _ rfl, OwnI.nil _ rfl, fun k hk => by simp [Value.ownBlock] at hk, fun k hk => by simp [Value.ownBlock] at hk, by omega, Nat.le_refl _, by omega⟩
    · rw [hW2]; exact World.cell?_alloc_at _ _ _ _ rfl
    · rw [hW2]; exact World.cell?_alloc_at _ _ _ _ rfl
    · rw [hW2, HR.out]
      have : i = 0 ∨ i = 3 ∨ i = 4 ∨ i = 5 ∨ i = 6 := by omega
      rcases this with rfl | rfl | rfl | rfl | rfl <;> exact World.cell?_alloc_at _ _ _ _ rfl
    · rw [hW2]; go_simp
  have HBL := Lib.hid BL
  clear BL hbs hbel
  obtain ⟨bo, HBo⟩ : ∃ bo, Hid (w1.heap.size = bo) := ⟨_, rfl⟩
  rw [HBo.out] at HBL
  go_wp2_with fail
  rw [← hW2]
  rw [show w1.heap.size = bo from HBo.out]
  clear hW2
  go_loopw [20] (fun kv wr => ∃ k : Nat, k ≤ n ∧ kv = .int .i64 k ∧ ∃ v1 v2, Bld 2 bo w0.heap.size n w0 R (fun _ => false) wr v1 v2 v1 v2 (F.first.take k) (F.last.take k)) (fun kv _ => n - (intOf kv).toNat)
  case atStart => exact ⟨0, by omega, rfl, _, _, by simpa using HBL.out⟩
  case round =>
    obtain ⟨k, hk, rfl, v1, v2, hM⟩ := hrel
    by_cases hlt : k < n
    · have HX1 : Hid (F.first.take (k + 1) = F.first.take k ++ [0]) := by
        unfold Hid
        rw [take_row (by rw [HF.out]; exact hlt), HFK.out k hlt]
      have HX2 : Hid (F.last.take (k + 1) = F.last.take k ++ [D k 0]) := by
        unfold Hid
        rw [take_row (by rw [HL.out]; exact hlt), HLK.out k hlt]
      have hl1 : (F.first.take k).length = k := by rw [List.length_take, HF.out]; omega
      have hl2 : (F.last.take k).length = k := by rw [List.length_take, HL.out]; omega
      obtain ⟨bt, ot, bi, oi, ci, rfl, y0, zr⟩ := HRT.out k hlt
      have y1 := zr 0 (by omega)
      rw [Nat.add_zero] at y1
      obtain ⟨DK, HDK⟩ : ∃ d, Hid (D k 0 = d) := ⟨_, rfl⟩
      rw [HDK.out] at y1 HX2
      obtain ⟨L1, HL1⟩ : ∃ L, Hid (F.first.take k = L) := ⟨_, rfl⟩
      obtain ⟨L2, HL2⟩ : ∃ L, Hid (F.last.take k = L) := ⟨_, rfl⟩
      rw [HL1.out] at hM hl1 HX1
      rw [HL2.out] at hM hl2 HX2
      have hin0 : (0 : Int) ≤ (k : Int) := by omega
      have hin1 : (k : Int) < (n : Int) := by omega
      have hinn : 0 < n := by omega
      obtain ⟨a1, p1, rfl, -, -⟩ := hM.o1.rd
      obtain ⟨a2, p2, rfl, -, -⟩ := hM.o2.rd
      rw [hl1, hl2] at hM
      have c1 := hM.c1
      have c2 := hM.c2
      have hs1 := hM.bel.size
      have hlu : w0.heap.size < wr.heap.size := World.block_lt_of_cell? wr _ (hM.us 0 (by omega)).1
      have HM := Lib.hid hM
      have hkl1 : L1.length < 1000000000 := by omega
      have hkl2 : L2.length < 1000000000 := by omega
      have HLEN := Lib.hid (And.intro hl1 hl2)
      have HZ : Hid (w0.cell? ⟨bt, ot + k, none⟩ = some (.slice (some ⟨bi, oi, none⟩) n ci) ∧ w0.cell? ⟨bi, oi, none⟩ = some (.int .i64 DK)) := ⟨y0, y1⟩
      have z0 := cellB hM.bel y0
      have z1 := cellB hM.bel y1
      have c1d : wr.drew.cell? ⟨bo, 1, none⟩ = some (.slice a1 k p1) := c1
      have zd : wr.drew.cell? ⟨bo, 2, none⟩ = some (.slice a2 k p2) ∧ wr.drew.cell? ⟨bt, ot + k, none⟩ = some (.slice (some ⟨bi, oi, none⟩) n ci) ∧ wr.drew.cell? ⟨bi, oi, none⟩ = some (.int .i64 DK) := ⟨c2, z0, z1⟩
      have hl3 : ∀ x : Int, (L1 ++ [x]).length = k + 1 := fun x => by have := HLEN.out.1; simp; omega
      have hl5 : ∀ x : Int, (L2 ++ [x]).length = k + 1 := fun x => by have := HLEN.out.2; simp; omega
      have ZB : ∀ W, Below wr.heap.size wr W → W.cell? ⟨bo, 1, none⟩ = some (.slice a1 k p1) ∧ W.cell? ⟨bo, 2, none⟩ = some (.slice a2 k p2) ∧ W.cell? ⟨bt, ot + k, none⟩ = some (.slice (some ⟨bi, oi, none⟩) n ci) ∧ W.cell? ⟨bi, oi, none⟩ = some (.int .i64 DK) := fun W hb => ⟨cellB hb c1, cellB hb c2, cellB hb z0, cellB hb z1⟩
      have HZB := Lib.hid ZB
      clear hM zr hl1 hl2 y0 y1 ZB z0 z1 c1 c2
      go_wp2_with fail
      
      refine wp_region_noPanic ?_; refine wp_region_L (S := untilL 7 25 (fun w' => w'.cell? ⟨bo, 1, none⟩ = some (.slice a1 k p1)) (fun w' => w'.cell? ⟨bo, 2, none⟩ = some (.slice a2 k p2) ∧ w'.cell? ⟨bt, ot + k, none⟩ = some (.slice (some ⟨bi, oi, none⟩) n ci) ∧ w'.cell? ⟨bi, oi, none⟩ = some (.int .i64 DK))) (by kernel_rfl) ?_
      (refine wpAnyL_take (S0 := (fun _ => True)) (i := 0) (q := 20) (v := ?lv1) rfl rfl (by kernel_rfl) (by kernel_rfl) (by kernel_rfl) (by kernel_rfl) (by kernel_rfl) (fun _ _ _ h => h) (fun _ _ _ _ => True.intro) (untilL_set (by decide) (by decide)) (Or.inl ⟨by rfl, ?lhy1⟩) ⟨fun _ => c1d, fun _ => zd⟩ ?lrest1; case lhy1 => (intro w hSw; (try dsimp only at hSw); go_simp; (try with_reducible rfl)); (try simp only [Act.put, List.getElem_toArray, List.getElem_cons_zero, List.getElem_cons_succ, List.setIfInBounds_toArray, List.set_cons_zero, List.set_cons_succ])); (refine wpAnyL_take (S0 := (fun _ => True)) (i := 1) (q := 23) (v := ?lv2) rfl rfl (by kernel_rfl) (by kernel_rfl) (by kernel_rfl) (by kernel_rfl) (by kernel_rfl) (fun _ _ _ h => h) (fun _ _ _ _ => True.intro) (untilL_set (by decide) (by decide)) (Or.inl ⟨by rfl, ?lhy2⟩) ⟨fun _ => c1d, fun _ => zd⟩ ?lrest2; case lhy2 => (intro w hSw; (try dsimp only at hSw); go_simp; (try with_reducible rfl)); (try simp only [Act.put, List.getElem_toArray, List.getElem_cons_zero, List.getElem_cons_succ, List.setIfInBounds_toArray, List.set_cons_zero, List.set_cons_succ])); (refine wpAnyL_take (S0 := (fun _ => True)) (i := 2) (q := 3) (v := ?lv3) rfl rfl (by kernel_rfl) (by kernel_rfl) (by kernel_rfl) (by kernel_rfl) (by kernel_rfl) (fun _ _ _ h => h) (fun _ _ _ _ => True.intro) (untilL_set (by decide) (by decide)) (Or.inl ⟨by rfl, ?lhy3⟩) ⟨fun _ => c1d, fun _ => zd⟩ ?lrest3; case lhy3 => (intro w hSw; (try dsimp only at hSw); go_simp; (try with_reducible rfl)); (try simp only [Act.put, List.getElem_toArray, List.getElem_cons_zero, List.getElem_cons_succ, List.setIfInBounds_toArray, List.set_cons_zero, List.set_cons_succ])); (refine wpAnyL_take (S0 := (fun _ => True)) (i := 3) (q := 4) (v := ?lv4) rfl rfl (by kernel_rfl) (by kernel_rfl) (by kernel_rfl) (by kernel_rfl) (by kernel_rfl) (fun _ _ _ h => h) (fun _ _ _ _ => True.intro) (untilL_set (by decide) (by decide)) (Or.inl ⟨by rfl, ?lhy4⟩) ⟨fun _ => c1d, fun _ => zd⟩ ?lrest4; case lhy4 => (intro w hSw; (try dsimp only at hSw); go_simp; (try with_reducible rfl)); (try simp only [Act.put, List.getElem_toArray, List.getElem_cons_zero, List.getElem_cons_succ, List.setIfInBounds_toArray, List.set_cons_zero, List.set_cons_succ])); (refine wpAnyL_take (S0 := (fun _ => True)) (i := 4) (q := 5) (v := ?lv5) rfl rfl (by kernel_rfl) (by kernel_rfl) (by kernel_rfl) (by kernel_rfl) (by kernel_rfl) (fun _ _ _ h => h) (fun _ _ _ _ => True.intro) (untilL_set (by decide) (by decide)) (Or.inl ⟨by rfl, ?lhy5⟩) ⟨fun _ => c1d, fun _ => zd⟩ ?lrest5; case lhy5 => (intro w hSw; (try dsimp only at hSw); go_simp; (try with_reducible rfl)); (try simp only [Act.put, List.getElem_toArray, List.getElem_cons_zero, List.getElem_cons_succ, List.setIfInBounds_toArray, List.set_cons_zero, List.set_cons_succ])); (refine wpAnyL_take (S0 := (fun w' => w'.cell? ⟨bo, 1, none⟩ = some (.slice a1 k p1))) (i := 5) (q := 7) (v := ?lv6) rfl rfl (by kernel_rfl) (by kernel_rfl) (by kernel_rfl) (by kernel_rfl) (by kernel_rfl) (fun _ _ _ h => h) (fun _ _ hq hS => hS.1 hq) (untilL_set (by decide) (by decide)) (Or.inl ⟨by rfl, ?lhy6⟩) ⟨fun _ => c1d, fun _ => zd⟩ ?lrest6; case lhy6 => (intro w hSw; (try dsimp only at hSw); go_simp; (try with_reducible rfl)); (try simp only [Act.put, List.getElem_toArray, List.getElem_cons_zero, List.getElem_cons_succ, List.setIfInBounds_toArray, List.set_cons_zero, List.set_cons_succ])); (refine wpAnyL_take (S0 := (fun _ => True)) (i := 8) (q := 9) (v := ?lv7) rfl rfl (by kernel_rfl) (by kernel_rfl) (by kernel_rfl) (by kernel_rfl) (by kernel_rfl) (fun _ _ _ h => h) (fun _ _ _ _ => True.intro) (untilL_set (by decide) (by decide)) (Or.inl ⟨by rfl, ?lhy7⟩) ⟨fun _ => c1d, fun _ => zd⟩ ?lrest7; case lhy7 => (intro w hSw; (try dsimp only at hSw); go_simp; (try with_reducible rfl)); (try simp only [Act.put, List.getElem_toArray, List.getElem_cons_zero, List.getElem_cons_succ, List.setIfInBounds_toArray, List.set_cons_zero, List.set_cons_succ])); (refine wpAnyL_take (S0 := (fun _ => True)) (i := 9) (q := 10) (v := ?lv8) rfl rfl (by kernel_rfl) (by kernel_rfl) (by kernel_rfl) (by kernel_rfl) (by kernel_rfl) (fun _ _ _ h => h) (fun _ _ _ _ => True.intro) (untilL_set (by decide) (by decide)) (Or.inl ⟨by rfl, ?lhy8⟩) ⟨fun _ => c1d, fun _ => zd⟩ ?lrest8; case lhy8 => (intro w hSw; (try dsimp only at hSw); go_simp; (try with_reducible rfl)); (try simp only [Act.put, List.getElem_toArray, List.getElem_cons_zero, List.getElem_cons_succ, List.setIfInBounds_toArray, List.set_cons_zero, List.set_cons_succ])); (refine wpAnyL_take (S0 := (fun _ => True)) (i := 10) (q := 11) (v := ?lv9) rfl rfl (by kernel_rfl) (by kernel_rfl) (by kernel_rfl) (by kernel_rfl) (by kernel_rfl) (fun _ _ _ h => h) (fun _ _ _ _ => True.intro) (untilL_set (by decide) (by decide)) (Or.inl ⟨by rfl, ?lhy9⟩) ⟨fun _ => c1d, fun _ => zd⟩ ?lrest9; case lhy9 => (intro w hSw; (try dsimp only at hSw); go_simp; (try with_reducible rfl)); (try simp only [Act.put, List.getElem_toArray, List.getElem_cons_zero, List.getElem_cons_succ, List.setIfInBounds_toArray, List.set_cons_zero, List.set_cons_succ])); (refine wpAnyL_take (S0 := (fun w' => w'.cell? ⟨bo, 2, none⟩ = some (.slice a2 k p2) ∧ w'.cell? ⟨bt, ot + k, none⟩ = some (.slice (some ⟨bi, oi, none⟩) n ci) ∧ w'.cell? ⟨bi, oi, none⟩ = some (.int .i64 DK))) (i := 11) (q := 25) (v := ?lv10) rfl rfl (by kernel_rfl) (by kernel_rfl) (by kernel_rfl) (by kernel_rfl) (by kernel_rfl) (fun _ _ _ h => h) (fun _ _ hq hS => hS.2 hq) (untilL_set (by decide) (by decide)) (Or.inl ⟨by rfl, ?lhy10⟩) ⟨fun _ => c1d, fun _ => zd⟩ ?lrest10; case lhy10 => (intro w hSw; (try dsimp only at hSw); go_simp; (try with_reducible rfl)); (try simp only [Act.put, List.getElem_toArray, List.getElem_cons_zero, List.getElem_cons_succ, List.setIfInBounds_toArray, List.set_cons_zero, List.set_cons_succ])); (refine wpAnyL_take (S0 := (fun _ => True)) (i := 12) (q := 14) (v := ?lv11) rfl rfl (by kernel_rfl) (by kernel_rfl) (by kernel_rfl) (by kernel_rfl) (by kernel_rfl) (fun _ _ _ h => h) (fun _ _ _ _ => True.intro) (untilL_set (by decide) (by decide)) (Or.inl ⟨by rfl, ?lhy11⟩) ⟨fun _ => c1d, fun _ => zd⟩ ?lrest11; case lhy11 => (intro w hSw; (try dsimp only at hSw); go_simp; (try with_reducible rfl)); (try simp only [Act.put, List.getElem_toArray, List.getElem_cons_zero, List.getElem_cons_succ, List.setIfInBounds_toArray, List.set_cons_zero, List.set_cons_succ])); (refine wpAnyL_take (S0 := (fun _ => True)) (i := 13) (q := 14) (v := ?lv12) rfl rfl (by kernel_rfl) (by kernel_rfl) (by kernel_rfl) (by kernel_rfl) (by kernel_rfl) (fun _ _ _ h => h) (fun _ _ _ _ => True.intro) (untilL_set (by decide) (by decide)) (Or.inl ⟨by rfl, ?lhy12⟩) ⟨fun _ => c1d, fun _ => zd⟩ ?lrest12; case lhy12 => (intro w hSw; (try dsimp only at hSw); go_simp; (try with_reducible rfl)); (try simp only [Act.put, List.getElem_toArray, List.getElem_cons_zero, List.getElem_cons_succ, List.setIfInBounds_toArray, List.set_cons_zero, List.set_cons_succ])); (refine wpAnyL_take (S0 := (fun _ => True)) (i := 14) (q := 15) (v := ?lv13) rfl rfl (by kernel_rfl) (by kernel_rfl) (by kernel_rfl) (by kernel_rfl) (by kernel_rfl) (fun _ _ _ h => h) (fun _ _ _ _ => True.intro) (untilL_set (by decide) (by decide)) (Or.inl ⟨by rfl, ?lhy13⟩) ⟨fun _ => c1d, fun _ => zd⟩ ?lrest13; case lhy13 => (intro w hSw; (try dsimp only at hSw); go_simp; (try with_reducible rfl)); (try simp only [Act.put, List.getElem_toArray, List.getElem_cons_zero, List.getElem_cons_succ, List.setIfInBounds_toArray, List.set_cons_zero, List.set_cons_succ])); (refine wpAnyL_take (S0 := (fun w' => w'.cell? ⟨bo, 2, none⟩ = some (.slice a2 k p2) ∧ w'.cell? ⟨bt, ot + k, none⟩ = some (.slice (some ⟨bi, oi, none⟩) n ci) ∧ w'.cell? ⟨bi, oi, none⟩ = some (.int .i64 DK))) (i := 15) (q := 25) (v := ?lv14) rfl rfl (by kernel_rfl) (by kernel_rfl) (by kernel_rfl) (by kernel_rfl) (by kernel_rfl) (fun _ _ _ h => h) (fun _ _ hq hS => hS.2 hq) (untilL_set (by decide) (by decide)) (Or.inl ⟨by rfl, ?lhy14⟩) ⟨fun _ => c1d, fun _ => zd⟩ ?lrest14; case lhy14 => (intro w hSw; (try dsimp only at hSw); go_simp; (try with_reducible rfl)); (try simp only [Act.put, List.getElem_toArray, List.getElem_cons_zero, List.getElem_cons_succ, List.setIfInBounds_toArray, List.set_cons_zero, List.set_cons_succ])); (refine wpAnyL_take (S0 := (fun _ => True)) (i := 16) (q := 17) (v := ?lv15) rfl rfl (by kernel_rfl) (by kernel_rfl) (by kernel_rfl) (by kernel_rfl) (by kernel_rfl) (fun _ _ _ h => h) (fun _ _ _ _ => True.intro) (untilL_set (by decide) (by decide)) (Or.inl ⟨by rfl, ?lhy15⟩) ⟨fun _ => c1d, fun _ => zd⟩ ?lrest15; case lhy15 => (intro w hSw; (try dsimp only at hSw); go_simp; (try with_reducible rfl)); (try simp only [Act.put, List.getElem_toArray, List.getElem_cons_zero, List.getElem_cons_succ, List.setIfInBounds_toArray, List.set_cons_zero, List.set_cons_succ])); (refine wpAnyL_take (S0 := (fun w' => w'.cell? ⟨bo, 2, none⟩ = some (.slice a2 k p2) ∧ w'.cell? ⟨bt, ot + k, none⟩ = some (.slice (some ⟨bi, oi, none⟩) n ci) ∧ w'.cell? ⟨bi, oi, none⟩ = some (.int .i64 DK))) (i := 17) (q := 25) (v := ?lv16) rfl rfl (by kernel_rfl) (by kernel_rfl) (by kernel_rfl) (by kernel_rfl) (by kernel_rfl) (fun _ _ _ h => h) (fun _ _ hq hS => hS.2 hq) (untilL_set (by decide) (by decide)) (Or.inl ⟨by rfl, ?lhy16⟩) ⟨fun _ => c1d, fun _ => zd⟩ ?lrest16; case lhy16 => (intro w hSw; (try dsimp only at hSw); go_simp; (try with_reducible rfl)); (try simp only [Act.put, List.getElem_toArray, List.getElem_cons_zero, List.getElem_cons_succ, List.setIfInBounds_toArray, List.set_cons_zero, List.set_cons_succ]))
      refine wpAnyL_ready (rs := [6, 18]) (by kernel_rfl) (by simp) ?_
      refine (AllReadyL.cons (i := 6) rfl (fun K hK => ?_) (AllReadyL.cons (i := 18) rfl (fun K hK => ?_) AllReadyL.nil))
      · go_simp
        have ZA := HZB.out (wr.alloc (.cells #[.int .i64 0] 2)).drew (((Below.refl _ _).al _).dr)
        refine hK.out _ _ ⟨(fun _ => ZA.1), (fun _ => ZA.2)⟩ (fun hHeld => ?_); clear hK K; (try simp only [Act.put, List.getElem_toArray, List.getElem_cons_zero, List.getElem_cons_succ, List.setIfInBounds_toArray, List.set_cons_zero, List.set_cons_succ])
        refine wpAnyL_ready (rs := [7, 18]) (by kernel_rfl) (by simp) ?_
        refine (AllReadyL.cons (i := 7) rfl (fun K hK => ?_) (AllReadyL.cons (i := 18) rfl (fun K hK => ?_) AllReadyL.nil))
        · refine step_push_i rfl _ _ _ rfl Try.underlying28 infoI w0.heap.size _ L1 0 (wr.heap.size) _ rfl rfl (by exact World.cell?_alloc_at _ _ _ _ rfl) (by exact (HM.out.below (((Below.refl _ _).al _).dr)).o1) hkl1 (by show w0.heap.size ≤ (wr.alloc _).heap.size; rw [World.size_alloc]; exact Nat.le_succ_of_le hs1) ?_
          intro v3 w3 ho3 hg3 hat3 hsl3
          have M3 := (HM.out.below (((Below.refl _ _).al _).dr)).grow1 ho3 hg3 (by
            rcases hat3 with e | e
            · exact Or.inl e
            · refine Or.inr (fun q hq => ?_)
              rw [e] at hq
              simp only [Option.some.injEq] at hq
              exact Nat.le_of_eq hq) (by show w0.heap.size < (wr.alloc _).heap.size; rw [World.size_alloc]; exact Nat.lt_succ_of_lt hlu)
          rcases ho3.shape with ⟨-, hnil⟩ | ⟨g3, p3, rfl, -⟩
          · exact absurd hnil (by simp)
          rw [hl3] at M3
          have hlu3 : w0.heap.size < w3.heap.size := World.block_lt_of_cell? w3 _ (M3.us 0 (by omega)).1
          have Z3 : w3.cell? ⟨bo, 2, none⟩ = some (.slice a2 k p2) ∧ w3.cell? ⟨bt, ot + k, none⟩ = some (.slice (some ⟨bi, oi, none⟩) n ci) ∧ w3.cell? ⟨bi, oi, none⟩ = some (.int .i64 DK) := ⟨M3.c2, cellB M3.bel HZ.out.1, cellB M3.bel HZ.out.2⟩
          have HZ4 : Hid (∀ W, Below w3.heap.size w3 W → W.cell? ⟨bo, 2, none⟩ = some (.slice a2 k p2) ∧ W.cell? ⟨bt, ot + k, none⟩ = some (.slice (some ⟨bi, oi, none⟩) n ci) ∧ W.cell? ⟨bi, oi, none⟩ = some (.int .i64 DK)) := fun W hb => ⟨cellB hb Z3.1, cellB hb Z3.2.1, cellB hb Z3.2.2⟩
          
          refine hK.out _ _ ⟨(fun h => Bool.noConfusion (show true = false from h)), (fun _ => Z3)⟩ (fun hHeld => ?_); clear hK K; (try simp only [Act.put, List.getElem_toArray, List.getElem_cons_zero, List.getElem_cons_succ, List.setIfInBounds_toArray, List.set_cons_zero, List.set_cons_succ])
          
          refine wpAnyL_ready (rs := [18]) (by kernel_rfl) (by simp) ?_; refine AllReadyL.cons (i := 18) rfl (fun K hK => ?_) AllReadyL.nil
          go_simp
          have Z4 := HZ4.out (w3.alloc (.cells #[.int .i64 DK] 2)) ((Below.refl _ _).al _)
          refine hK.out _ _ ⟨(fun h => Bool.noConfusion (show true = false from h)), (fun _ => Z4)⟩ (fun hHeld => ?_); clear hK K; (try simp only [Act.put, List.getElem_toArray, List.getElem_cons_zero, List.getElem_cons_succ, List.setIfInBounds_toArray, List.set_cons_zero, List.set_cons_succ])
          refine wpAnyL_ready (rs := [19]) (by kernel_rfl) (by simp) ?_; refine AllReadyL.cons (i := 19) rfl (fun K hK => ?_) AllReadyL.nil
          refine step_push_i rfl _ _ _ rfl Try.underlying28 infoI w0.heap.size _ L2 DK (w3.heap.size) _ rfl rfl (by exact World.cell?_alloc_at _ _ _ _ rfl) (by exact (M3.below ((Below.refl _ _).al _)).o2) hkl2 (by show w0.heap.size ≤ (w3.alloc _).heap.size; rw [World.size_alloc]; exact Nat.le_succ_of_le M3.bel.size) ?_
          intro v5 w5 ho5 hg5 hat5 hsl5
          have M5 := (M3.below ((Below.refl _ _).al _)).grow2 ho5 hg5 (by
            rcases hat5 with e | e
            · exact Or.inl e
            · refine Or.inr (fun q hq => ?_)
              rw [e] at hq
              simp only [Option.some.injEq] at hq
              exact Nat.le_of_eq hq) (by show w0.heap.size < (w3.alloc _).heap.size; rw [World.size_alloc]; exact Nat.lt_succ_of_lt hlu3)
          rcases ho5.shape with ⟨-, hnil⟩ | ⟨g5, p5, rfl, -⟩
          · exact absurd hnil (by simp)
          rw [hl5] at M5
          have Z5 : w5.cell? ⟨bo, 2, none⟩ = some (.slice a2 k p2) ∧ w5.cell? ⟨bt, ot + k, none⟩ = some (.slice (some ⟨bi, oi, none⟩) n ci) ∧ w5.cell? ⟨bi, oi, none⟩ = some (.int .i64 DK) := ⟨M5.c2, cellB M5.bel HZ.out.1, cellB M5.bel HZ.out.2⟩
          have c5 := M5.c1
          have f5 := M5.fr 1 (by decide)
          have M6 := M5.put1 (.slice (some ⟨g3, 0, none⟩) (k + 1) p3)
          have c6 := M6.c2
          have f6 := M6.fr 2 (by decide)
          have Z6 : (w5.setCell ⟨bo, 1, none⟩ (.slice (some ⟨g3, 0, none⟩) (k + 1) p3)).cell? ⟨bo, 2, none⟩ = some (.slice a2 k p2) ∧ (w5.setCell ⟨bo, 1, none⟩ (.slice (some ⟨g3, 0, none⟩) (k + 1) p3)).cell? ⟨bt, ot + k, none⟩ = some (.slice (some ⟨bi, oi, none⟩) n ci) ∧ (w5.setCell ⟨bo, 1, none⟩ (.slice (some ⟨g3, 0, none⟩) (k + 1) p3)).cell? ⟨bi, oi, none⟩ = some (.int .i64 DK) := ⟨M6.c2, cellB M6.bel HZ.out.1, cellB M6.bel HZ.out.2⟩
          have M7 := Lib.hid (M6.put2 (.slice (some ⟨g5, 0, none⟩) (k + 1) p5))
          clear M5 M6 M3 ho5 hg5 hat5 hsl5 ho3 hg3 hat3 hsl3
          
          refine hK.out _ _ ⟨(fun h => Bool.noConfusion (show true = false from h)), (fun _ => Z5)⟩ (fun hHeld => ?_); clear hK K; (try simp only [Act.put, List.getElem_toArray, List.getElem_cons_zero, List.getElem_cons_succ, List.setIfInBounds_toArray, List.set_cons_zero, List.set_cons_succ])
          
          (refine wpAnyL_take (S0 := (fun _ => True)) (i := 20) (q := 21) (v := ?lv17) rfl rfl (by kernel_rfl) (by kernel_rfl) (by kernel_rfl) (by kernel_rfl) (by kernel_rfl) (fun _ _ _ h => h) (fun _ _ _ _ => True.intro) (untilL_set (by decide) (by decide)) (Or.inl ⟨by rfl, ?lhy17⟩) ⟨(fun h => Bool.noConfusion (show true = false from h)), fun _ => Z5⟩ ?lrest17; case lhy17 => (intro w hSw; (try dsimp only at hSw); go_simp; (try with_reducible rfl)); (try simp only [Act.put, List.getElem_toArray, List.getElem_cons_zero, List.getElem_cons_succ, List.setIfInBounds_toArray, List.set_cons_zero, List.set_cons_succ])); (refine wpAnyL_take (S0 := (fun _ => True)) (i := 21) (q := 22) (v := ?lv18) rfl rfl (by kernel_rfl) (by kernel_rfl) (by kernel_rfl) (by kernel_rfl) (by kernel_rfl) (fun _ _ _ h => h) (fun _ _ _ _ => True.intro) (untilL_set (by decide) (by decide)) (Or.inl ⟨by rfl, ?lhy18⟩) ⟨(fun h => Bool.noConfusion (show true = false from h)), fun _ => Z5⟩ ?lrest18; case lhy18 => (intro w hSw; (try dsimp only at hSw); go_simp; (try with_reducible rfl)); (try simp only [Act.put, List.getElem_toArray, List.getElem_cons_zero, List.getElem_cons_succ, List.setIfInBounds_toArray, List.set_cons_zero, List.set_cons_succ]))
          refine wpAnyL_ready (rs := [22]) (by kernel_rfl) (by simp) ?_; refine AllReadyL.cons (i := 22) rfl (fun K hK => ?_) AllReadyL.nil
          go_simp
          
          refine hK.out _ _ ⟨(fun h => Bool.noConfusion (show true = false from h)), (fun _ => Z6)⟩ (fun hHeld => ?_); clear hK K; (try simp only [Act.put, List.getElem_toArray, List.getElem_cons_zero, List.getElem_cons_succ, List.setIfInBounds_toArray, List.set_cons_zero, List.set_cons_succ])
          
          (refine wpAnyL_take (S0 := (fun _ => True)) (i := 23) (q := 24) (v := ?lv19) rfl rfl (by kernel_rfl) (by kernel_rfl) (by kernel_rfl) (by kernel_rfl) (by kernel_rfl) (fun _ _ _ h => h) (fun _ _ _ _ => True.intro) (untilL_set (by decide) (by decide)) (Or.inl ⟨by rfl, ?lhy19⟩) ⟨(fun h => Bool.noConfusion (show true = false from h)), fun _ => Z6⟩ ?lrest19; case lhy19 => (intro w hSw; (try dsimp only at hSw); go_simp; (try with_reducible rfl)); (try simp only [Act.put, List.getElem_toArray, List.getElem_cons_zero, List.getElem_cons_succ, List.setIfInBounds_toArray, List.set_cons_zero, List.set_cons_succ])); (refine wpAnyL_take (S0 := (fun _ => True)) (i := 24) (q := 25) (v := ?lv20) rfl rfl (by kernel_rfl) (by kernel_rfl) (by kernel_rfl) (by kernel_rfl) (by kernel_rfl) (fun _ _ _ h => h) (fun _ _ _ _ => True.intro) (untilL_set (by decide) (by decide)) (Or.inl ⟨by rfl, ?lhy20⟩) ⟨(fun h => Bool.noConfusion (show true = false from h)), fun _ => Z6⟩ ?lrest20; case lhy20 => (intro w hSw; (try dsimp only at hSw); go_simp; (try with_reducible rfl)); (try simp only [Act.put, List.getElem_toArray, List.getElem_cons_zero, List.getElem_cons_succ, List.setIfInBounds_toArray, List.set_cons_zero, List.set_cons_succ]))
          refine wpAnyL_ready (rs := [25]) (by kernel_rfl) (by simp) ?_; refine AllReadyL.cons (i := 25) rfl (fun K hK => ?_) AllReadyL.nil
          go_simp
          refine hK.out _ _ ⟨(fun h => Bool.noConfusion (show true = false from h)), (fun h => Bool.noConfusion (show true = false from h))⟩ (fun hHeld => ?_); clear hK K; (try simp only [Act.put, List.getElem_toArray, List.getElem_cons_zero, List.getElem_cons_succ, List.setIfInBounds_toArray, List.set_cons_zero, List.set_cons_succ])
          refine wpAnyL_done (by kernel_rfl) ?_ _; refine NoPanic.normal ?_
          go_wp2_with fail
          go_roundw
          case rel => exact ⟨k + 1, by omega, by go_num, _, _, by rw [HX1.out, HX2.out]; exact M7.out⟩
          case measure => simp [intOf]; omega
        · go_simp
          have ZA := HZB.out ((wr.alloc (.cells #[.int .i64 0] 2)).alloc (.cells #[.int .i64 DK] 2)).drew ((((Below.refl _ _).al _).al _).dr)
          refine hK.out _ _ ⟨(fun _ => ZA.1), (fun _ => ZA.2)⟩ (fun hHeld => ?_); clear hK K; (try simp only [Act.put, List.getElem_toArray, List.getElem_cons_zero, List.getElem_cons_succ, List.setIfInBounds_toArray, List.set_cons_zero, List.set_cons_succ])
          refine wpAnyL_ready (rs := [7]) (by kernel_rfl) (by simp) ?_; refine AllReadyL.cons (i := 7) rfl (fun K hK => ?_) AllReadyL.nil
          refine step_push_i rfl _ _ _ rfl Try.underlying28 infoI w0.heap.size _ L1 0 (wr.heap.size) _ rfl rfl (by exact al_c _ (World.cell?_alloc_at _ _ _ _ rfl)) (by exact (HM.out.below ((((Below.refl _ _).al _).al _).dr)).o1) hkl1 (by show w0.heap.size ≤ ((wr.alloc _).alloc _).heap.size; rw [World.size_alloc, World.size_alloc]; omega) ?_
          intro v3 w3 ho3 hg3 hat3 hsl3
          have M3 := (HM.out.below ((((Below.refl _ _).al _).al _).dr)).grow1 ho3 hg3 (by
            rcases hat3 with e | e
            · exact Or.inl e
            · refine Or.inr (fun q hq => ?_)
              rw [e] at hq
              simp only [Option.some.injEq] at hq
              exact Nat.le_of_eq hq) (by show w0.heap.size < ((wr.alloc _).alloc _).heap.size; rw [World.size_alloc, World.size_alloc]; omega)
          rcases ho3.shape with ⟨-, hnil⟩ | ⟨g3, p3, rfl, -⟩
          · exact absurd hnil (by simp)
          rw [hl3] at M3
          have hlu3 : w0.heap.size < w3.heap.size := World.block_lt_of_cell? w3 _ (M3.us 0 (by omega)).1
          have q3 : w3.cell? ⟨wr.heap.size + 1, 0, none⟩ = some (.int .i64 DK) := grownB hg3 (by show ((wr.alloc _).alloc _).cell? _ = _; exact World.cell?_alloc_at _ _ _ _ (by simp)) (fun e => by have := (World.ownsRow.lt HM.out.o1 _ e).2; omega)
          have Z3 : w3.cell? ⟨bo, 2, none⟩ = some (.slice a2 k p2) ∧ w3.cell? ⟨bt, ot + k, none⟩ = some (.slice (some ⟨bi, oi, none⟩) n ci) ∧ w3.cell? ⟨bi, oi, none⟩ = some (.int .i64 DK) := ⟨M3.c2, cellB M3.bel HZ.out.1, cellB M3.bel HZ.out.2⟩
          have HZ4 : Hid (∀ W, Below w3.heap.size w3 W → W.cell? ⟨bo, 2, none⟩ = some (.slice a2 k p2) ∧ W.cell? ⟨bt, ot + k, none⟩ = some (.slice (some ⟨bi, oi, none⟩) n ci) ∧ W.cell? ⟨bi, oi, none⟩ = some (.int .i64 DK)) := fun W hb => ⟨cellB hb Z3.1, cellB hb Z3.2.1, cellB hb Z3.2.2⟩
          
          refine hK.out _ _ ⟨(fun h => Bool.noConfusion (show true = false from h)), (fun _ => Z3)⟩ (fun hHeld => ?_); clear hK K; (try simp only [Act.put, List.getElem_toArray, List.getElem_cons_zero, List.getElem_cons_succ, List.setIfInBounds_toArray, List.set_cons_zero, List.set_cons_succ])
          
          refine wpAnyL_ready (rs := [19]) (by kernel_rfl) (by simp) ?_; refine AllReadyL.cons (i := 19) rfl (fun K hK => ?_) AllReadyL.nil
          refine step_push_i rfl _ _ _ rfl Try.underlying28 infoI w0.heap.size _ L2 DK ((wr.heap.size + 1)) _ rfl rfl (by exact q3) (by exact (M3).o2) hkl2 (by exact M3.bel.size) ?_
          intro v5 w5 ho5 hg5 hat5 hsl5
          have M5 := (M3).grow2 ho5 hg5 (by
            rcases hat5 with e | e
            · exact Or.inl e
            · refine Or.inr (fun q hq => ?_)
              rw [e] at hq
              simp only [Option.some.injEq] at hq
              exact Nat.le_of_eq hq) (by exact hlu3)
          rcases ho5.shape with ⟨-, hnil⟩ | ⟨g5, p5, rfl, -⟩
          · exact absurd hnil (by simp)
          rw [hl5] at M5
          have Z5 : w5.cell? ⟨bo, 2, none⟩ = some (.slice a2 k p2) ∧ w5.cell? ⟨bt, ot + k, none⟩ = some (.slice (some ⟨bi, oi, none⟩) n ci) ∧ w5.cell? ⟨bi, oi, none⟩ = some (.int .i64 DK) := ⟨M5.c2, cellB M5.bel HZ.out.1, cellB M5.bel HZ.out.2⟩
          have c5 := M5.c1
          have f5 := M5.fr 1 (by decide)
          have M6 := M5.put1 (.slice (some ⟨g3, 0, none⟩) (k + 1) p3)
          have c6 := M6.c2
          have f6 := M6.fr 2 (by decide)
          have Z6 : (w5.setCell ⟨bo, 1, none⟩ (.slice (some ⟨g3, 0, none⟩) (k + 1) p3)).cell? ⟨bo, 2, none⟩ = some (.slice a2 k p2) ∧ (w5.setCell ⟨bo, 1, none⟩ (.slice (some ⟨g3, 0, none⟩) (k + 1) p3)).cell? ⟨bt, ot + k, none⟩ = some (.slice (some ⟨bi, oi, none⟩) n ci) ∧ (w5.setCell ⟨bo, 1, none⟩ (.slice (some ⟨g3, 0, none⟩) (k + 1) p3)).cell? ⟨bi, oi, none⟩ = some (.int .i64 DK) := ⟨M6.c2, cellB M6.bel HZ.out.1, cellB M6.bel HZ.out.2⟩
          have M7 := Lib.hid (M6.put2 (.slice (some ⟨g5, 0, none⟩) (k + 1) p5))
          clear M5 M6 M3 ho5 hg5 hat5 hsl5 ho3 hg3 hat3 hsl3
          
          refine hK.out _ _ ⟨(fun h => Bool.noConfusion (show true = false from h)), (fun _ => Z5)⟩ (fun hHeld => ?_); clear hK K; (try simp only [Act.put, List.getElem_toArray, List.getElem_cons_zero, List.getElem_cons_succ, List.setIfInBounds_toArray, List.set_cons_zero, List.set_cons_succ])
          
          (refine wpAnyL_take (S0 := (fun _ => True)) (i := 20) (q := 21) (v := ?lv21) rfl rfl (by kernel_rfl) (by kernel_rfl) (by kernel_rfl) (by kernel_rfl) (by kernel_rfl) (fun _ _ _ h => h) (fun _ _ _ _ => True.intro) (untilL_set (by decide) (by decide)) (Or.inl ⟨by rfl, ?lhy21⟩) ⟨(fun h => Bool.noConfusion (show true = false from h)), fun _ => Z5⟩ ?lrest21; case lhy21 => (intro w hSw; (try dsimp only at hSw); go_simp; (try with_reducible rfl)); (try simp only [Act.put, List.getElem_toArray, List.getElem_cons_zero, List.getElem_cons_succ, List.setIfInBounds_toArray, List.set_cons_zero, List.set_cons_succ])); (refine wpAnyL_take (S0 := (fun _ => True)) (i := 21) (q := 22) (v := ?lv22) rfl rfl (by kernel_rfl) (by kernel_rfl) (by kernel_rfl) (by kernel_rfl) (by kernel_rfl) (fun _ _ _ h => h) (fun _ _ _ _ => True.intro) (untilL_set (by decide) (by decide)) (Or.inl ⟨by rfl, ?lhy22⟩) ⟨(fun h => Bool.noConfusion (show true = false from h)), fun _ => Z5⟩ ?lrest22; case lhy22 => (intro w hSw; (try dsimp only at hSw); go_simp; (try with_reducible rfl)); (try simp only [Act.put, List.getElem_toArray, List.getElem_cons_zero, List.getElem_cons_succ, List.setIfInBounds_toArray, List.set_cons_zero, List.set_cons_succ]))
          refine wpAnyL_ready (rs := [22]) (by kernel_rfl) (by simp) ?_; refine AllReadyL.cons (i := 22) rfl (fun K hK => ?_) AllReadyL.nil
          go_simp
          
          refine hK.out _ _ ⟨(fun h => Bool.noConfusion (show true = false from h)), (fun _ => Z6)⟩ (fun hHeld => ?_); clear hK K; (try simp only [Act.put, List.getElem_toArray, List.getElem_cons_zero, List.getElem_cons_succ, List.setIfInBounds_toArray, List.set_cons_zero, List.set_cons_succ])
          
          (refine wpAnyL_take (S0 := (fun _ => True)) (i := 23) (q := 24) (v := ?lv23) rfl rfl (by kernel_rfl) (by kernel_rfl) (by kernel_rfl) (by kernel_rfl) (by kernel_rfl) (fun _ _ _ h => h) (fun _ _ _ _ => True.intro) (untilL_set (by decide) (by decide)) (Or.inl ⟨by rfl, ?lhy23⟩) ⟨(fun h => Bool.noConfusion (show true = false from h)), fun _ => Z6⟩ ?lrest23; case lhy23 => (intro w hSw; (try dsimp only at hSw); go_simp; (try with_reducible rfl)); (try simp only [Act.put, List.getElem_toArray, List.getElem_cons_zero, List.getElem_cons_succ, List.setIfInBounds_toArray, List.set_cons_zero, List.set_cons_succ])); (refine wpAnyL_take (S0 := (fun _ => True)) (i := 24) (q := 25) (v := ?lv24) rfl rfl (by kernel_rfl) (by kernel_rfl) (by kernel_rfl) (by kernel_rfl) (by kernel_rfl) (fun _ _ _ h => h) (fun _ _ _ _ => True.intro) (untilL_set (by decide) (by decide)) (Or.inl ⟨by rfl, ?lhy24⟩) ⟨(fun h => Bool.noConfusion (show true = false from h)), fun _ => Z6⟩ ?lrest24; case lhy24 => (intro w hSw; (try dsimp only at hSw); go_simp; (try with_reducible rfl)); (try simp only [Act.put, List.getElem_toArray, List.getElem_cons_zero, List.getElem_cons_succ, List.setIfInBounds_toArray, List.set_cons_zero, List.set_cons_succ]))
          refine wpAnyL_ready (rs := [25]) (by kernel_rfl) (by simp) ?_; refine AllReadyL.cons (i := 25) rfl (fun K hK => ?_) AllReadyL.nil
          go_simp
          refine hK.out _ _ ⟨(fun h => Bool.noConfusion (show true = false from h)), (fun h => Bool.noConfusion (show true = false from h))⟩ (fun hHeld => ?_); clear hK K; (try simp only [Act.put, List.getElem_toArray, List.getElem_cons_zero, List.getElem_cons_succ, List.setIfInBounds_toArray, List.set_cons_zero, List.set_cons_succ])
          refine wpAnyL_done (by kernel_rfl) ?_ _; refine NoPanic.normal ?_
          go_wp2_with fail
          go_roundw
          case rel => exact ⟨k + 1, by omega, by go_num, _, _, by rw [HX1.out, HX2.out]; exact M7.out⟩
          case measure => simp [intOf]; omega
      · go_simp
        have ZA := HZB.out (wr.alloc (.cells #[.int .i64 DK] 2)).drew (((Below.refl _ _).al _).dr)
        
        refine hK.out _ _ ⟨(fun _ => ZA.1), (fun _ => ZA.2)⟩ (fun hHeld => ?_); clear hK K; (try simp only [Act.put, List.getElem_toArray, List.getElem_cons_zero, List.getElem_cons_succ, List.setIfInBounds_toArray, List.set_cons_zero, List.set_cons_succ])
        refine wpAnyL_ready (rs := [6]) (by kernel_rfl) (by simp) ?_; refine AllReadyL.cons (i := 6) rfl (fun K hK => ?_) AllReadyL.nil
        go_simp
        have ZC := HZB.out ((wr.alloc (.cells #[.int .i64 DK] 2)).alloc (.cells #[.int .i64 0] 2)).drew ((((Below.refl _ _).al _).al _).dr)
        refine hK.out _ _ ⟨(fun _ => ZC.1), (fun _ => ZC.2)⟩ (fun hHeld => ?_); clear hK K; (try simp only [Act.put, List.getElem_toArray, List.getElem_cons_zero, List.getElem_cons_succ, List.setIfInBounds_toArray, List.set_cons_zero, List.set_cons_succ])
        refine wpAnyL_ready (rs := [7]) (by kernel_rfl) (by simp) ?_; refine AllReadyL.cons (i := 7) rfl (fun K hK => ?_) AllReadyL.nil
        refine step_push_i rfl _ _ _ rfl Try.underlying28 infoI w0.heap.size _ L1 0 ((wr.heap.size + 1)) _ rfl rfl (by show ((wr.alloc _).alloc _).cell? _ = _; exact World.cell?_alloc_at _ _ _ _ (by simp)) (by exact (HM.out.below ((((Below.refl _ _).al _).al _).dr)).o1) hkl1 (by show w0.heap.size ≤ ((wr.alloc _).alloc _).heap.size; rw [World.size_alloc, World.size_alloc]; omega) ?_
        intro v3 w3 ho3 hg3 hat3 hsl3
        have M3 := (HM.out.below ((((Below.refl _ _).al _).al _).dr)).grow1 ho3 hg3 (by
          rcases hat3 with e | e
          · exact Or.inl e
          · refine Or.inr (fun q hq => ?_)
            rw [e] at hq
            simp only [Option.some.injEq] at hq
            exact Nat.le_of_eq hq) (by show w0.heap.size < ((wr.alloc _).alloc _).heap.size; rw [World.size_alloc, World.size_alloc]; omega)
        rcases ho3.shape with ⟨-, hnil⟩ | ⟨g3, p3, rfl, -⟩
        · exact absurd hnil (by simp)
        rw [hl3] at M3
        have hlu3 : w0.heap.size < w3.heap.size := World.block_lt_of_cell? w3 _ (M3.us 0 (by omega)).1
        have q3 : w3.cell? ⟨wr.heap.size, 0, none⟩ = some (.int .i64 DK) := grownB hg3 (by exact al_c _ (World.cell?_alloc_at _ _ _ _ rfl)) (fun e => by have := (World.ownsRow.lt HM.out.o1 _ e).2; omega)
        have Z3 : w3.cell? ⟨bo, 2, none⟩ = some (.slice a2 k p2) ∧ w3.cell? ⟨bt, ot + k, none⟩ = some (.slice (some ⟨bi, oi, none⟩) n ci) ∧ w3.cell? ⟨bi, oi, none⟩ = some (.int .i64 DK) := ⟨M3.c2, cellB M3.bel HZ.out.1, cellB M3.bel HZ.out.2⟩
        have HZ4 : Hid (∀ W, Below w3.heap.size w3 W → W.cell? ⟨bo, 2, none⟩ = some (.slice a2 k p2) ∧ W.cell? ⟨bt, ot + k, none⟩ = some (.slice (some ⟨bi, oi, none⟩) n ci) ∧ W.cell? ⟨bi, oi, none⟩ = some (.int .i64 DK)) := fun W hb => ⟨cellB hb Z3.1, cellB hb Z3.2.1, cellB hb Z3.2.2⟩
        
        refine hK.out _ _ ⟨(fun h => Bool.noConfusion (show true = false from h)), (fun _ => Z3)⟩ (fun hHeld => ?_); clear hK K; (try simp only [Act.put, List.getElem_toArray, List.getElem_cons_zero, List.getElem_cons_succ, List.setIfInBounds_toArray, List.set_cons_zero, List.set_cons_succ])
        
        refine wpAnyL_ready (rs := [19]) (by kernel_rfl) (by simp) ?_; refine AllReadyL.cons (i := 19) rfl (fun K hK => ?_) AllReadyL.nil
        refine step_push_i rfl _ _ _ rfl Try.underlying28 infoI w0.heap.size _ L2 DK (wr.heap.size) _ rfl rfl (by exact q3) (by exact (M3).o2) hkl2 (by exact M3.bel.size) ?_
        intro v5 w5 ho5 hg5 hat5 hsl5
        have M5 := (M3).grow2 ho5 hg5 (by
          rcases hat5 with e | e
          · exact Or.inl e
          · refine Or.inr (fun q hq => ?_)
            rw [e] at hq
            simp only [Option.some.injEq] at hq
            exact Nat.le_of_eq hq) (by exact hlu3)
        rcases ho5.shape with ⟨-, hnil⟩ | ⟨g5, p5, rfl, -⟩
        · exact absurd hnil (by simp)
        rw [hl5] at M5
        have Z5 : w5.cell? ⟨bo, 2, none⟩ = some (.slice a2 k p2) ∧ w5.cell? ⟨bt, ot + k, none⟩ = some (.slice (some ⟨bi, oi, none⟩) n ci) ∧ w5.cell? ⟨bi, oi, none⟩ = some (.int .i64 DK) := ⟨M5.c2, cellB M5.bel HZ.out.1, cellB M5.bel HZ.out.2⟩
        have c5 := M5.c1
        have f5 := M5.fr 1 (by decide)
        have M6 := M5.put1 (.slice (some ⟨g3, 0, none⟩) (k + 1) p3)
        have c6 := M6.c2
        have f6 := M6.fr 2 (by decide)
        have Z6 : (w5.setCell ⟨bo, 1, none⟩ (.slice (some ⟨g3, 0, none⟩) (k + 1) p3)).cell? ⟨bo, 2, none⟩ = some (.slice a2 k p2) ∧ (w5.setCell ⟨bo, 1, none⟩ (.slice (some ⟨g3, 0, none⟩) (k + 1) p3)).cell? ⟨bt, ot + k, none⟩ = some (.slice (some ⟨bi, oi, none⟩) n ci) ∧ (w5.setCell ⟨bo, 1, none⟩ (.slice (some ⟨g3, 0, none⟩) (k + 1) p3)).cell? ⟨bi, oi, none⟩ = some (.int .i64 DK) := ⟨M6.c2, cellB M6.bel HZ.out.1, cellB M6.bel HZ.out.2⟩
        have M7 := Lib.hid (M6.put2 (.slice (some ⟨g5, 0, none⟩) (k + 1) p5))
        clear M5 M6 M3 ho5 hg5 hat5 hsl5 ho3 hg3 hat3 hsl3
        
        refine hK.out _ _ ⟨(fun h => Bool.noConfusion (show true = false from h)), (fun _ => Z5)⟩ (fun hHeld => ?_); clear hK K; (try simp only [Act.put, List.getElem_toArray, List.getElem_cons_zero, List.getElem_cons_succ, List.setIfInBounds_toArray, List.set_cons_zero, List.set_cons_succ])
        
        (refine wpAnyL_take (S0 := (fun _ => True)) (i := 20) (q := 21) (v := ?lv25) rfl rfl (by kernel_rfl) (by kernel_rfl) (by kernel_rfl) (by kernel_rfl) (by kernel_rfl) (fun _ _ _ h => h) (fun _ _ _ _ => True.intro) (untilL_set (by decide) (by decide)) (Or.inl ⟨by rfl, ?lhy25⟩) ⟨(fun h => Bool.noConfusion (show true = false from h)), fun _ => Z5⟩ ?lrest25; case lhy25 => (intro w hSw; (try dsimp only at hSw); go_simp; (try with_reducible rfl)); (try simp only [Act.put, List.getElem_toArray, List.getElem_cons_zero, List.getElem_cons_succ, List.setIfInBounds_toArray, List.set_cons_zero, List.set_cons_succ])); (refine wpAnyL_take (S0 := (fun _ => True)) (i := 21) (q := 22) (v := ?lv26) rfl rfl (by kernel_rfl) (by kernel_rfl) (by kernel_rfl) (by kernel_rfl) (by kernel_rfl) (fun _ _ _ h => h) (fun _ _ _ _ => True.intro) (untilL_set (by decide) (by decide)) (Or.inl ⟨by rfl, ?lhy26⟩) ⟨(fun h => Bool.noConfusion (show true = false from h)), fun _ => Z5⟩ ?lrest26; case lhy26 => (intro w hSw; (try dsimp only at hSw); go_simp; (try with_reducible rfl)); (try simp only [Act.put, List.getElem_toArray, List.getElem_cons_zero, List.getElem_cons_succ, List.setIfInBounds_toArray, List.set_cons_zero, List.set_cons_succ]))
        refine wpAnyL_ready (rs := [22]) (by kernel_rfl) (by simp) ?_; refine AllReadyL.cons (i := 22) rfl (fun K hK => ?_) AllReadyL.nil
        go_simp
        
        refine hK.out _ _ ⟨(fun h => Bool.noConfusion (show true = false from h)), (fun _ => Z6)⟩ (fun hHeld => ?_); clear hK K; (try simp only [Act.put, List.getElem_toArray, List.getElem_cons_zero, List.getElem_cons_succ, List.setIfInBounds_toArray, List.set_cons_zero, List.set_cons_succ])
        
        (refine wpAnyL_take (S0 := (fun _ => True)) (i := 23) (q := 24) (v := ?lv27) rfl rfl (by kernel_rfl) (by kernel_rfl) (by kernel_rfl) (by kernel_rfl) (by kernel_rfl) (fun _ _ _ h => h) (fun _ _ _ _ => True.intro) (untilL_set (by decide) (by decide)) (Or.inl ⟨by rfl, ?lhy27⟩) ⟨(fun h => Bool.noConfusion (show true = false from h)), fun _ => Z6⟩ ?lrest27; case lhy27 => (intro w hSw; (try dsimp only at hSw); go_simp; (try with_reducible rfl)); (try simp only [Act.put, List.getElem_toArray, List.getElem_cons_zero, List.getElem_cons_succ, List.setIfInBounds_toArray, List.set_cons_zero, List.set_cons_succ])); (refine wpAnyL_take (S0 := (fun _ => True)) (i := 24) (q := 25) (v := ?lv28) rfl rfl (by kernel_rfl) (by kernel_rfl) (by kernel_rfl) (by kernel_rfl) (by kernel_rfl) (fun _ _ _ h => h) (fun _ _ _ _ => True.intro) (untilL_set (by decide) (by decide)) (Or.inl ⟨by rfl, ?lhy28⟩) ⟨(fun h => Bool.noConfusion (show true = false from h)), fun _ => Z6⟩ ?lrest28; case lhy28 => (intro w hSw; (try dsimp only at hSw); go_simp; (try with_reducible rfl)); (try simp only [Act.put, List.getElem_toArray, List.getElem_cons_zero, List.getElem_cons_succ, List.setIfInBounds_toArray, List.set_cons_zero, List.set_cons_succ]))
        refine wpAnyL_ready (rs := [25]) (by kernel_rfl) (by simp) ?_; refine AllReadyL.cons (i := 25) rfl (fun K hK => ?_) AllReadyL.nil
        go_simp
        refine hK.out _ _ ⟨(fun h => Bool.noConfusion (show true = false from h)), (fun h => Bool.noConfusion (show true = false from h))⟩ (fun hHeld => ?_); clear hK K; (try simp only [Act.put, List.getElem_toArray, List.getElem_cons_zero, List.getElem_cons_succ, List.setIfInBounds_toArray, List.set_cons_zero, List.set_cons_succ])
        refine wpAnyL_done (by kernel_rfl) ?_ _; refine NoPanic.normal ?_
        go_wp2_with fail
        go_roundw
        case rel => exact ⟨k + 1, by omega, by go_num, _, _, by rw [HX1.out, HX2.out]; exact M7.out⟩
        case measure => simp [intOf]; omega
    · obtain rfl : k = n := by omega
      rw [List.take_of_length_le (by rw [HF.out]; omega), List.take_of_length_le (by rw [HL.out]; omega)] at hM
      have hlu : w0.heap.size < wr.heap.size := World.block_lt_of_cell? wr _ (hM.us 0 (by omega)).1
      have r0 : R 0 = .slice at1 k capt := by rw [HR.out]; rfl
      have r3 : R 3 = .slice none 0 0 := by rw [HR.out]; rfl
      have r4 : R 4 = .slice (some ⟨w0.heap.size, 0, none⟩) k k := by rw [HR.out]; rfl
      have r5 : R 5 = .slice none 0 0 := by rw [HR.out]; rfl
      have r6 : R 6 = .int .i64 0 := by rw [HR.out]; rfl
      have m0 := hM.cr 0 (by decide) (by decide) (by decide)
      have m3 := hM.cr 3 (by decide) (by decide) (by decide)
      have m4 := hM.cr 4 (by decide) (by decide) (by decide)
      have m5 := hM.cr 5 (by decide) (by decide) (by decide)
      have m6 := hM.cr 6 (by decide) (by decide) (by decide)
      rw [r0] at m0; rw [r3] at m3; rw [r4] at m4; rw [r5] at m5; rw [r6] at m6
      have f3 := hM.fr 3 (by decide)
      have u0 := (hM.us 0 (by omega)).1
      have uf0 := (hM.us 0 (by omega)).2
      have hlb := hM.lbo
      have hAL : Below wr.heap.size wr (wr.alloc (.cells #[.int .i64 0] 2)) := (Below.refl _ _).al _
      have hal1 : wr.heap.size < (wr.alloc (.cells #[.int .i64 0] 2)).heap.size := by rw [World.size_alloc]; omega
      have hM1 := hM.below hAL
      have hA : SrchM 2 w0.heap.size bo 3 4 w0.heap.size k (fun j => j = bo ∨ j = w0.heap.size ∨ j = wr.heap.size) (wr.alloc (.cells #[.int .i64 0] 2)) (.slice at1 k capt) v1 v2 (wr.alloc (.cells #[.int .i64 0] 2)) (.slice none 0 0) (.slice none 0 0) (.int .i64 0) (.slice (some ⟨wr.heap.size, 0, none⟩) 1 1) [0] (fun _ => false) (.slice none 0 0) [] := by
        refine ⟨cellB hAL m0, hM1.c1, hM1.c2, cellB hAL m3, cellB hAL m4, cellB hAL m5, cellB hAL m6, hM1.fr 3 (by decide), hM1.fr 5 (by decide), hM1.fr 6 (by decide), hM1.us, ?_, OwnI.nil _ rfl, fun j hj => ?_, UpdS.refl _ _, Or.inl rfl, Or.inr (Or.inl rfl), hM.ne, by omega, by omega, by have := hM.bel.size; omega, fun j hj => ?_⟩
        · exact World.ownsRow_lit (w := wr) #[Value.int IntKind.i64 0] 1 hM.bel.size (by decide) rfl
        · simp only [Value.ownBlock, Option.some.injEq] at hj
          subst hj
          exact ⟨Or.inl (Or.inr (Or.inr rfl)), by omega, by omega, by simp [Value.ownBlock]⟩
        · rcases hj with rfl | rfl | rfl <;> omega
      have hB := (hA.setUsed 0 (by omega) true).putO (by decide) (by decide) (.slice (some ⟨wr.heap.size, 0, none⟩) 1 1)
      have hS : SrchI w0.heap.size bo w0.heap.size k (fun j => j = bo ∨ j = w0.heap.size ∨ j = wr.heap.size) (wr.alloc (.cells #[.int .i64 0] 2)) (.slice at1 k capt) v1 v2 _ _ [0] (.slice none 0 0) none :=
        ⟨hB.fun (fun j hj => by
          show (if j = 0 then true else false) = memO [0] j
          unfold memO
          by_cases e : j = 0
          · subst e; simp
          · rw [if_neg e]; symm; simp; omega), fun _ => rfl, fun p hp => by cases hp⟩
      have hRF : RdFar (fun j => j = bo ∨ j = w0.heap.size ∨ j = wr.heap.size) k (wr.alloc (.cells #[.int .i64 0] 2)) (.slice at1 k capt) v1 v2 F := by
        refine hM1.far (by omega) HF.out HL.out HT.out (fun j hj => ?_) (fun i j hi hj => by rw [← HFF.out]; show ((costL k D).getD i []).getD j 0 = _; rw [cost_at, if_pos ⟨hi, hj⟩])
        rcases hj with rfl | rfl | rfl
        · exact ⟨hM.hbo, fun e => (hM.d1 _ e).1 rfl, fun e => (hM.d2 _ e).1 rfl⟩
        · exact ⟨Nat.le_refl _, fun e => (hM.d1 _ e).2.1 rfl, fun e => (hM.d2 _ e).2 rfl⟩
        · exact ⟨by omega, fun e => by have := (World.ownsRow.lt hM.o1 _ e).2; omega, fun e => by have := (World.ownsRow.lt hM.o2 _ e).2; omega⟩
      have hbl := hM1.bel
      have hbo := hM.hbo
      have nb : wr.heap.size ≠ bo := World.new_ne wr _ m3
      have nu : wr.heap.size ≠ w0.heap.size := World.new_ne wr _ u0
      have ne1 := hM.ne
      have ne2 : w0.heap.size ≠ bo := fun e => ne1 e.symm
      have hk1 : 0 < k := by omega
      rw [World.setCell_alloc_past _ _ _ _ (by omega), World.setCell_alloc_past _ _ _ _ (by simpa using hlb)] at hS
      have HS := Lib.hid hS
      have HRF := Lib.hid hRF
      have HBE := Lib.hid hbl
      clear hM hM1 hA hB hS hRF hbl r0 r3 r4 r5 r6 m0 m5 m6 hAL hal1
      go_wp2_with fail
      refine (c_impl_step _ _ _ _ _ _ _ _ _ F HRF.out HB.out (k - 1) [0] 0 _ _ none _ HS.out ⟨by simp, by intro x hx; simp at hx; subst hx; omega⟩ (by simp; omega) (by simp) NnO.none).mono ?_; rintro e w4 ⟨rfl, vo4, vb4, h4⟩
      rw [HW.out] at h4
      obtain ⟨ad, m4', cap4, rfl⟩ := h4.bs q rfl
      have c5 := h4.m.c5
      have c6 : w4.cell? ⟨bo, 6, none⟩ = some (.int .i64 q.2) := h4.m.c6
      have ob := h4.m.ob.base HBE.out.size
      have hfin := updS_below HBE.out h4.m.up HBE.out.size (fun j hj => by rcases hj with rfl | rfl | rfl <;> omega)
      have hfin2 := HB0.out.tr hfin
      have ob2 := ob.base HB0.out.size
      have HOB := Lib.hid (And.intro ob2 hfin2)
      clear h4 ob hfin ob2 hfin2
      go_wp2_with fail
      go_quiet (fail)
      go_wp2
      go_ret2
      exact ⟨_, by rw [HQ.out]; rfl, by rw [HQ.out]; exact HOB.out.1.below ((Below.refl _ _).drN _), ⟨_, _, _, rfl⟩, HOB.out.2.tr ((Below.refl _ _).drN _)⟩
end Go.Proofs.Ytjjghmmpfnlpaaa
