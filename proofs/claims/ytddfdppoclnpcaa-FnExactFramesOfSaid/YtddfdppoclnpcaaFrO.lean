/- Contracts: FrameAt. -/
import Derived.Test.YtddfdppoclnpcaaFrM
namespace Go.Proofs.Ytddfdppoclnpcaa
open Go.ChangeShapes Go.WideShapes Go.ChangeAt Go.RowKit
set_option linter.unusedVariables false
set_option linter.unusedSimpArgs false
def faT (p : List Int) (B D x t : Int) : Int := if frCode p B D x t ≠ 0 then 0 else t
def faL (p : List Int) (B D x t : Int) : List Dot5 := if frCode p B D x t ≠ 0 then [] else dotsF p B D x t
theorem faL_len (p : List Int) (B D x t : Int) : (faL p B D x t).length ≤ 16 := by
  unfold faL
  split
  · simp
  · rename_i h
    have h0 : frCode p B D x t = 0 := by omega
    have := props_le (frCode_ok h0).1
    rw [dotsF_len]; omega
theorem own_sl {E : TypeId} {lo hi : Nat} {w : World} {v : Value} {xs : List Dot5} (h : OwnRow E 5 rowD lo hi w v xs) : ∃ a cap, v = .slice a xs.length cap := by
  obtain ⟨a, cap, e, _⟩ := h.rd rowD_len
  exact ⟨a, cap, e⟩
set_option maxHeartbeats 4000000 in
set_option maxRecDepth 100000 in
theorem c_impl_FrameAt (p : List Int) (B D x t : Int) (v : Value) (w : World) (hr : RdI w v p) :
    Calls Try.prog 35 #[v, .agg #[.int .i64 B, .int .i64 D], .int .i64 x, .int .i64 t] w fun e w' => ∃ a cap, e = .returned (.tuple #[.agg #[.int .i64 (faT p B D x t), .slice a (faL p B D x t).length cap], .int .i64 (frCode p B D x t)]) ∧ OwnRow 51 5 rowD w.heap.size w'.heap.size w' (.slice a (faL p B D x t).length cap) (faL p B D x t) ∧ Below w.heap.size w w' := by
  obtain ⟨W0, hW0, k0, k1, g0, g1, e0, e1, B0⟩ := boxTFr w B D
  have HR : Hid (RdI W0 v p) := Lib.hid (hr.below B0)
  clear hr
  have hz0 : w.heap.size + 1 < W0.heap.size := World.block_lt_of_cell? _ _ g0
  by_cases hL : frCode p B D x t = 0
  · have eT : faT p B D x t = t := by unfold faT; rw [if_neg (by simp [hL])]
    have eL : faL p B D x t = dotsF p B D x t := by unfold faL; rw [if_neg (by simp [hL])]
    rw [eT, eL, hL]
    obtain ⟨hv, hvt, hx, ht⟩ := frCode_ok hL
    obtain ⟨hB, hD⟩ := validT_bd hvt
    have hD2 : 1 ≤ D ∧ D ≤ 60 := by omega
    have HV := Lib.hid hv
    have HL := Lib.hid hL
    obtain ⟨L, HLL⟩ : ∃ L, Hid (dotsF p B D x t = L) := ⟨_, Lib.hid rfl⟩
    rw [HLL.out]
    clear hL hv hvt eT eL
    go_enter Try.func35, Try.ntmps35
    go_wp2_with fail
    rw [← hW0]
    clear hW0
    refine (c_impl_frameCode p B D x t _ _ HR.out).mono ?_; rintro e w2 ⟨rfl, hb2⟩; rw [HL.out]
    have k0 := keepc hb2 k0
    have k1 := keepc hb2 k1
    go_wp2_with fail
    refine (c_impl_frameO p B D x t _ _ (HR.out.below hb2) HV.out hB hD2 hx ht).mono ?_; rintro e w4 ⟨u, rfl, hu, hb4⟩
    rw [HLL.out] at hu
    obtain ⟨au, cu, rfl⟩ := own_sl hu
    have hB24 := hb2.tr hb4
    have hs2 := hb2.size
    have e0 := frozenc hB24 g0 e0
    have e1 := frozenc hB24 g1 e1
    have g0 := keepc hB24 g0
    have g1 := keepc hB24 g1
    obtain ⟨X0, X1, -, hg⟩ := set2 w4 (w.heap.size + 1) (.int .i64 t) (.slice au L.length cu) _ _ g0 g1
    have BZ := ((B0.tr hB24).setCell (p := ⟨w.heap.size + 1, 0, none⟩) (Nat.le_succ _) (.int .i64 t)).setCell (p := ⟨w.heap.size + 1, 1, none⟩) (Nat.le_succ _) (.slice au L.length cu)
    have hs4 := hg.size
    have HOW := Lib.hid (((hu.upd (Upd.of_grown (lo := w.heap.size + 1) (hi := w.heap.size + 2) hg (fun k hk => by simp only [Option.some.injEq] at hk; omega)) (Or.inr (by omega))).wide (lo' := w.heap.size) (by omega) (Nat.le_refl _)).tight)
    clear hu
    go_wp2
    generalize ((w4.setCell ⟨w.heap.size + 1, 0, none⟩ (.int .i64 t)).setCell ⟨w.heap.size + 1, 1, none⟩ (.slice au L.length cu)) = wz at *
    exact bodyPost_ret (v := .tuple #[.agg #[.int .i64 t, .slice au L.length cu], .int .i64 0]) (by simp [results, Try.results35, go_sem, X0, X1]) rfl ⟨_, _, rfl, HOW.out, by first | exact BZ | exact BZ.drew⟩
  · have eT : faT p B D x t = 0 := by unfold faT; rw [if_pos hL]
    have eL : faL p B D x t = [] := by unfold faL; rw [if_pos hL]
    rw [eT, eL]
    clear eT eL
    have t0 : (frCode p B D x t != 0) = true := by simpa using hL
    obtain ⟨L, HL⟩ : ∃ L, Hid (frCode p B D x t = L) := ⟨_, Lib.hid rfl⟩
    rw [HL.out] at t0 ⊢
    clear hL
    go_enter Try.func35, Try.ntmps35
    go_wp2_with fail
    rw [← hW0]
    clear hW0
    refine (c_impl_frameCode p B D x t _ _ HR.out).mono ?_; rintro e w2 ⟨rfl, hb2⟩; rw [HL.out]
    have e0 := frozenc hb2 g0 e0
    have e1 := frozenc hb2 g1 e1
    have g0 := keepc hb2 g0
    have g1 := keepc hb2 g1
    obtain ⟨X0, X1, -, hg⟩ := set2 w2 (w.heap.size + 1) (.int .i64 0) (.slice none 0 0) _ _ g0 g1
    have BZ := ((B0.tr hb2).setCell (p := ⟨w.heap.size + 1, 0, none⟩) (Nat.le_succ _) (.int .i64 0)).setCell (p := ⟨w.heap.size + 1, 1, none⟩) (Nat.le_succ _) (.slice none 0 0)
    have HOW : ∀ {W : World}, Hid (OwnRow 51 5 rowD w.heap.size W.heap.size W (.slice none ([] : List Dot5).length 0) ([] : List Dot5)) := fun {W} => Lib.hid (OwnRow.nil _ rfl)
    go_wp2
    generalize ((w2.setCell ⟨w.heap.size + 1, 0, none⟩ (.int .i64 0)).setCell ⟨w.heap.size + 1, 1, none⟩ (.slice none 0 0)) = wz at *
    exact bodyPost_ret (v := .tuple #[.agg #[.int .i64 0, .slice none 0 0], .int .i64 L]) (by simp [results, Try.results35, go_sem, X0, X1]) rfl ⟨_, _, rfl, HOW.out, by first | exact BZ | exact BZ.drew⟩
set_option maxHeartbeats 4000000 in
set_option maxRecDepth 100000 in
theorem c_spec_FrameAt (p : List Int) (B D x t : Int) (v : Value) (w : World) (hr : RdI w v p) :
    Calls Try.prog 34 #[v, .agg #[.int .i64 B, .int .i64 D], .int .i64 x, .int .i64 t] w fun e w' => ∃ a cap, e = .returned (.tuple #[.agg #[.int .i64 (faT p B D x t), .slice a (faL p B D x t).length cap], .int .i64 (frCode p B D x t)]) ∧ OwnRow 51 5 rowD w.heap.size w'.heap.size w' (.slice a (faL p B D x t).length cap) (faL p B D x t) ∧ Below w.heap.size w w' := by
  obtain ⟨W0, hW0, k0, k1, g0, g1, e0, e1, B0⟩ := boxTFr w B D
  have HR : Hid (RdI W0 v p) := Lib.hid (hr.below B0)
  clear hr
  have hz0 : w.heap.size + 1 < W0.heap.size := World.block_lt_of_cell? _ _ g0
  by_cases hL : frCode p B D x t = 0
  · have eT : faT p B D x t = t := by unfold faT; rw [if_neg (by simp [hL])]
    have eL : faL p B D x t = dotsF p B D x t := by unfold faL; rw [if_neg (by simp [hL])]
    rw [eT, eL, hL]
    obtain ⟨hv, hvt, hx, ht⟩ := frCode_ok hL
    obtain ⟨hB, hD⟩ := validT_bd hvt
    have hD2 : 1 ≤ D ∧ D ≤ 60 := by omega
    have HV := Lib.hid hv
    have HL := Lib.hid hL
    obtain ⟨L, HLL⟩ : ∃ L, Hid (dotsF p B D x t = L) := ⟨_, Lib.hid rfl⟩
    rw [HLL.out]
    clear hL hv hvt eT eL
    go_enter Try.func34, Try.ntmps34
    go_wp2_with fail
    rw [← hW0]
    clear hW0
    refine (c_spec_l26Code p B D x t _ _ HR.out).mono ?_; rintro e w2 ⟨rfl, hb2⟩; rw [HL.out]
    have k0 := keepc hb2 k0
    have k1 := keepc hb2 k1
    go_wp2_with fail
    refine (c_spec_l26DotsO p B D x t _ _ (HR.out.below hb2) HV.out hB hD2 hx ht).mono ?_; rintro e w4 ⟨u, rfl, hu, hb4⟩
    rw [HLL.out] at hu
    obtain ⟨au, cu, rfl⟩ := own_sl hu
    have hB24 := hb2.tr hb4
    have hs2 := hb2.size
    have e0 := frozenc hB24 g0 e0
    have e1 := frozenc hB24 g1 e1
    have g0 := keepc hB24 g0
    have g1 := keepc hB24 g1
    obtain ⟨X0, X1, -, hg⟩ := set2 w4 (w.heap.size + 1) (.int .i64 t) (.slice au L.length cu) _ _ g0 g1
    have BZ := ((B0.tr hB24).setCell (p := ⟨w.heap.size + 1, 0, none⟩) (Nat.le_succ _) (.int .i64 t)).setCell (p := ⟨w.heap.size + 1, 1, none⟩) (Nat.le_succ _) (.slice au L.length cu)
    have hs4 := hg.size
    have HOW := Lib.hid (((hu.upd (Upd.of_grown (lo := w.heap.size + 1) (hi := w.heap.size + 2) hg (fun k hk => by simp only [Option.some.injEq] at hk; omega)) (Or.inr (by omega))).wide (lo' := w.heap.size) (by omega) (Nat.le_refl _)).tight)
    clear hu
    go_wp2
    generalize ((w4.setCell ⟨w.heap.size + 1, 0, none⟩ (.int .i64 t)).setCell ⟨w.heap.size + 1, 1, none⟩ (.slice au L.length cu)) = wz at *
    exact bodyPost_ret (v := .tuple #[.agg #[.int .i64 t, .slice au L.length cu], .int .i64 0]) (by simp [results, Try.results34, go_sem, X0, X1]) rfl ⟨_, _, rfl, HOW.out, by first | exact BZ | exact BZ.drew⟩
  · have eT : faT p B D x t = 0 := by unfold faT; rw [if_pos hL]
    have eL : faL p B D x t = [] := by unfold faL; rw [if_pos hL]
    rw [eT, eL]
    clear eT eL
    have t0 : (frCode p B D x t != 0) = true := by simpa using hL
    obtain ⟨L, HL⟩ : ∃ L, Hid (frCode p B D x t = L) := ⟨_, Lib.hid rfl⟩
    rw [HL.out] at t0 ⊢
    clear hL
    go_enter Try.func34, Try.ntmps34
    go_wp2_with fail
    rw [← hW0]
    clear hW0
    refine (c_spec_l26Code p B D x t _ _ HR.out).mono ?_; rintro e w2 ⟨rfl, hb2⟩; rw [HL.out]
    have e0 := frozenc hb2 g0 e0
    have e1 := frozenc hb2 g1 e1
    have g0 := keepc hb2 g0
    have g1 := keepc hb2 g1
    obtain ⟨X0, X1, -, hg⟩ := set2 w2 (w.heap.size + 1) (.int .i64 0) (.slice none 0 0) _ _ g0 g1
    have BZ := ((B0.tr hb2).setCell (p := ⟨w.heap.size + 1, 0, none⟩) (Nat.le_succ _) (.int .i64 0)).setCell (p := ⟨w.heap.size + 1, 1, none⟩) (Nat.le_succ _) (.slice none 0 0)
    have HOW : ∀ {W : World}, Hid (OwnRow 51 5 rowD w.heap.size W.heap.size W (.slice none ([] : List Dot5).length 0) ([] : List Dot5)) := fun {W} => Lib.hid (OwnRow.nil _ rfl)
    go_wp2
    generalize ((w2.setCell ⟨w.heap.size + 1, 0, none⟩ (.int .i64 0)).setCell ⟨w.heap.size + 1, 1, none⟩ (.slice none 0 0)) = wz at *
    exact bodyPost_ret (v := .tuple #[.agg #[.int .i64 0, .slice none 0 0], .int .i64 L]) (by simp [results, Try.results34, go_sem, X0, X1]) rfl ⟨_, _, rfl, HOW.out, by first | exact BZ | exact BZ.drew⟩
end Go.Proofs.Ytddfdppoclnpcaa
