/- The law FnFrames returns true for all slices of bytes. No condition. -/
import Derived.Test.YtpcaaohdlcoplaaFrT
import Derived.Test.YtpcaaohdlcoplaaFrU
import Derived.Test.YtpcaaohdlcoplaaFrP
import Derived.Test.YtpcaaohdlcoplaaFrames2
import Derived.Laws.StructEq
namespace Go.Proofs.Ytpcaaohdlcoplaa
open Go.ChangeShapes Go.WideShapes Go.ChangeAt Go.RowKit
set_option linter.unusedSimpArgs false
set_option linter.unusedVariables false
namespace fnFrames
theorem fC_ok {p : List Int} {B D x : Int} (h : fCode p B D x = 0) : validP p = true ∧ validT B D = true ∧ (0 ≤ x ∧ x ≤ 16) ∧ fitsP p B D = true := by
  unfold fCode at h
  split at h
  · omega
  · rename_i h1
    split at h
    · omega
    · rename_i h2
      split at h
      · omega
      · rename_i h3
        cases hv : validP p
        · exact absurd hv h1
        · cases ht : validT B D
          · exact absurd (Or.inl ht) h2
          · cases hx : inB x 0 16
            · exact absurd (Or.inr hx) h2
            · cases hf : fitsP p B D
              · exact absurd (Or.inl hf) h3
              · exact ⟨rfl, rfl, inB_iff.1 hx, rfl⟩
theorem fraD_le (n : Int) {d : Int} (hd : 0 < d) : fraD n d ≤ d := by
  obtain ⟨g, hg, -, h2⟩ := fra_parts n hd
  have h1 := fra_pos n hd
  have : fraD n d * 1 ≤ fraD n d * g := Int.mul_le_mul_of_nonneg_left (by omega) (by omega)
  omega
theorem dot_den {p : List Int} {B D x t q b : Int} (hv : validP p = true) (hB : 2 ≤ B ∧ B ≤ 30) (hD : 1 ≤ D ∧ D ≤ 60) (h1 : frP p b * B ≤ t) (h2 : t < b * B) : (dotP p B D x t q b).2.2.2.1 ≤ 1000 := by
  have hfr := fr_le hv b
  by_cases ha : t < b * B - D
  · rw [show dotP p B D x t q b = _ from dotP_air q ha]
    have hm : (b - frP p b) * B ≤ 15 * 30 := Int.mul_le_mul (by omega) hB.2 (by omega) (by omega)
    rw [Int.sub_mul] at hm
    have := fraD_le (airX p B D x t b) (d := b * B - D - frP p b * B) (by omega)
    show fraD (airX p B D x t b) (b * B - D - frP p b * B) ≤ 1000
    omega
  · rw [show dotP p B D x t q b = _ from dotP_held q ha]
    have := fraD_le (heldX B D x t b) (d := D) (by omega)
    show fraD (heldX B D x t b) D ≤ 1000
    omega
/-- all that the law asks of the dots of a frame -/
theorem dots_ok {p : List Int} {B D x t : Int} (hc : fCode p B D x = 0) (ht : 0 ≤ t) (i : Nat) (hi : i < (dotsF p B D x t).length) :
    ∃ h n d y : Int, (dotsF p B D x t)[i] = ((i : Int), h, n, d, y) ∧ (1 ≤ d ∧ d ≤ 1000) ∧ n ≤ 3 * x * d ∧ -(3 * x) * d ≤ n ∧ 0 ≤ y ∧ (h = -1 ∨ (h = 0 ∧ y = 0 ∧ n ≤ -x * d) ∨ (h = 1 ∧ y = 0 ∧ x * d ≤ n)) := by
  obtain ⟨hv, hT, hx, hf⟩ := fC_ok hc
  obtain ⟨hB, hD⟩ := validT_bd hT
  have hP := dotsF_len p B D x t
  have hq : (i : Int) < propsP p := by omega
  obtain ⟨b1, b2, b3, b4⟩ := bq_ok hv (t / B + 1).toNat i hq
  obtain ⟨d0, d1, d2⟩ := divF_bd hB.1 ht
  rw [dotsF_at hi]
  generalize bqP p (t / B + 1).toNat i = b at *
  have h1 := nx_time hB.1 ht b3
  have h2 : t < (b : Int) * B := Int.lt_of_lt_of_le d2 (Int.mul_le_mul_of_nonneg_right (by omega) (by omega))
  have hk := dot_ok (p := p) (B := B) (D := D) (x := x) (q := (i : Int)) hx.1 hD.1 h1 h2
  have hd := dot_den (x := x) (D := D) (q := (i : Int)) hv hB (by omega) h1 h2
  generalize dotP p B D x t i b = e at *
  obtain ⟨q, h, n, d, y⟩ := e
  dsimp only at hk hd
  obtain ⟨rfl, k1, k2, k3, k4, k5, k6⟩ := hk
  refine ⟨h, n, d, y, rfl, ⟨k2, hd⟩, k3, k4, k5, ?_⟩
  by_cases h0 : 0 ≤ h
  · obtain ⟨j1, j2, j3⟩ := k6 h0
    by_cases e : h = 0
    · exact Or.inr (Or.inl ⟨e, j1, j2 e⟩)
    · exact Or.inr (Or.inr ⟨by omega, j1, j3 (by omega)⟩)
  · exact Or.inl (by omega)
theorem hnN_succ {L : List Dot5} {k : Nat} (hk : k < L.length) : hnN L (k + 1) = hnN L k + if 0 ≤ L[k].2.1 then 1 else 0 := by
  have e : L.getD k zDot = L[k] := by simp [List.getD, hk]
  unfold hnN
  simp only [sumN]
  rw [e]
theorem fs4 {p : List Int} {B D x t : Int} (hc : frCode p B D x t = 0) (ht : 0 ≤ t ∧ t ≤ 255) : fsC p B D x t 3 4 = 0 ∧ fsL p B D x t 3 4 = [(t, dotsF p B D x t), (t + 3, dotsF p B D x (t + 3)), (t + 6, dotsF p B D x (t + 6)), (t + 9, dotsF p B D x (t + 9))] := by
  have hok : fsOk t 3 4 := ⟨by decide, by decide, by omega⟩
  unfold fsC fsL
  rw [if_neg (by omega), if_pos hok, if_neg (by omega), if_pos hok]
  refine ⟨rfl, ?_⟩
  show fsN p B D x t 3 4 = _
  unfold fsN
  simp [List.range, List.range.loop]
set_option maxHeartbeats 16000000 in
set_option maxRecDepth 100000 in
theorem walk (v0 v1 : Value) (w : World) (a0 : Arg_bytes w v0) (a1 : Arg_bytes w v1) : Calls Try.prog 6 #[v0, v1] w fun e w' => e = .returned (.bool true) ∧ Below w.heap.size w w' := by
  obtain ⟨bs, hb0⟩ := a0
  obtain ⟨ms, hb1⟩ := a1
  have HB0 := Lib.hid hb0
  have HB1 := Lib.hid hb1
  obtain ⟨aa, ca, rfl, hla, -, -⟩ := hb0
  obtain ⟨am, cm, rfl, hlm, -, -⟩ := hb1
  cases hlong : (decide ((bs.length : Int) > 3000) || decide ((ms.length : Int) > 3000))
  rotate_left
  · go_enter Try.func6, Try.ntmps6
    go_wp2_with fail
    refine (c_laws_a2Long _ _ _ _ _ _ _ (by omega) (by omega)).mono ?_; rintro e w1 ⟨rfl, rfl⟩; rw [hlong]
    go_wp2
    go_ret
    exact ⟨rfl, by (repeat (first | (with_reducible assumption) | (with_reducible exact Below.refl _ _) | (with_reducible refine Below.setCell ?_ (by first | (simp; done) | (simp; omega)) _) | (with_reducible refine Below.al ?_ _) | (with_reducible refine Below.dr ?_) | (with_reducible refine Below.drN ?_ _) | (with_reducible refine Below.tr ?_ (by with_reducible assumption))))⟩
  go_enter Try.func6, Try.ntmps6
  go_wp2_with fail
  refine (c_laws_a2Long _ _ _ _ _ _ _ (by omega) (by omega)).mono ?_; rintro e w1 ⟨rfl, rfl⟩; rw [hlong]
  go_wp2_with fail
  refine (c_spec_A2Motion bs _ _ HB0.out).mono ?_; rintro e w1 ⟨u, p, B, D, x, rfl, HR1, hc, B1⟩
  obtain ⟨hv, hT, hx, hf⟩ := fC_ok hc
  obtain ⟨hB, hD⟩ := validT_bd hT
  obtain ⟨W2, hW2, k0, k1, Q2⟩ := oneState w1 58 B D
  have HV := Lib.hid hv
  have HTT := Lib.hid hT
  have HFF := Lib.hid hf
  have HC := Lib.hid hc
  have HR := Lib.hid (HR1.below Q2)
  obtain ⟨au, cu, rfl, -, -⟩ := HR1
  clear hv hT hf hc
  go_wp2_with fail
  rw [← hW2]
  clear hW2
  refine (c_spec_PropsOfF p _ _ HR.out HV.out).mono ?_; rintro e w3 ⟨rfl, Q3⟩
  replace k0 := keepc Q3 k0
  replace k1 := keepc Q3 k1
  go_wp2_with fail
  refine (c_laws_a2At ms 0 0 256 _ _ (HB1.out.below (B1.tr (Q2.tr Q3))) (by omega) rfl).mono ?_; rintro e w4 ⟨t, rfl, ht0, ht1, rfl⟩
  have ht := ht1 (by omega)
  clear ht1
  have HFC : Hid (frCode p B D x t = 0) := by
    unfold Hid frCode
    rw [if_neg (by rw [HC.out]; decide), if_neg (by rw [inB_iff.2 ⟨ht0, by omega⟩]; decide)]
  have HDT : Hid (faT p B D x t = t) := by unfold Hid faT; rw [if_neg (by rw [HFC.out]; decide)]
  have HDL : Hid (faL p B D x t = dotsF p B D x t) := by unfold Hid faL; rw [if_neg (by rw [HFC.out]; decide)]
  have HOK := Lib.hid (dots_ok HC.out ht0)
  have HHD := Lib.hid (hands_held HV.out hB.1 hD ht0 HFF.out x)
  have HLN := Lib.hid (dotsF_len p B D x t)
  have hPn := props_nonneg HV.out
  have hPx := props_le HV.out
  obtain ⟨hfsC, hfsL⟩ := fs4 HFC.out (by omega)
  obtain ⟨L, hL⟩ : ∃ L, dotsF p B D x t = L := ⟨_, rfl⟩
  rw [hL] at HDL HOK HHD HLN hfsL
  obtain ⟨N, hN⟩ : ∃ N, L.length = N := ⟨_, rfl⟩
  have HPN : Hid (propsP p = (N : Int)) := by unfold Hid; have := HLN.out; omega
  have HNL := Lib.hid hN
  have hN16 : N ≤ 16 := by have := HPN.out; omega
  have HFSC := Lib.hid hfsC
  have HFSL := Lib.hid hfsL
  have HHD2 : Hid (hnN L N = heldN p B D t 4) := by unfold Hid; rw [← HNL.out]; exact HHD.out
  have HLL := Lib.hid hL
  have hhb := heldN_bd p B D t 4
  obtain ⟨HN, hHN⟩ : ∃ HN, heldN p B D t 4 = HN := ⟨_, rfl⟩
  rw [hHN] at hhb HHD2
  have HHN := Lib.hid hHN
  clear HLN hL hN hfsC hfsL HHD hHN hPn hPx
  rw [HPN.out]
  go_wp2_with fail
  refine (c_impl_FrameAt p B D x t _ _ (HR.out.below Q3)).mono ?_; rintro e w5 ⟨af, cf, rfl, ho5, Q5⟩
  rw [HDT.out, HFC.out, HDL.out, HNL.out]
  rw [HDL.out, HNL.out] at ho5
  replace k0 := keepc Q5 k0
  replace k1 := keepc Q5 k1
  have h5d := ho5.rd rowD_len
  have hzk : w1.heap.size < w5.heap.size := World.block_lt_of_cell? _ _ k0
  have nzk : ¬ w5.heap.size = w1.heap.size := by omega
  obtain ⟨W6, hW6⟩ : ∃ W, W = w5.alloc (Obj.cells #[.int .i64 t, .slice af N cf] 64) := ⟨_, rfl⟩
  have g0 : W6.cell? ⟨w5.heap.size, 0, none⟩ = some (.int .i64 t) := by rw [hW6]; exact World.cell?_alloc_at _ _ _ _ rfl
  have g1 : W6.cell? ⟨w5.heap.size, 1, none⟩ = some (.slice af N cf) := by rw [hW6]; exact World.cell?_alloc_at _ _ _ _ rfl
  have Q6 : Below w5.heap.size w5 W6 := by rw [hW6]; exact (Below.refl _ _).al _
  go_wp2_with fail
  rw [← hW6]
  clear hW6
  replace k0 := keepc Q6 k0
  replace k1 := keepc Q6 k1
  have HRF := Lib.hid (h5d.below Q6)
  clear ho5 h5d
  have HR6 := Lib.hid (((HR.out.below Q3).below Q5).below Q6)
  refine (c_spec_InHands p B D t _ _ HR6.out HV.out HTT.out HFF.out ⟨ht0, by omega⟩).mono ?_; rintro e w7 ⟨rfl, Q7⟩
  rw [HHN.out]
  replace k0 := keepc Q7 k0
  replace k1 := keepc Q7 k1
  replace g0 := keepc Q7 g0
  replace g1 := keepc Q7 g1
  have BB7 : Below w.heap.size w w7 := B1.tr ((((Q2.tr Q3).tr Q5).tr Q6).tr Q7)
  have HR7 := Lib.hid (HR6.out.below Q7)
  have HRF7 := Lib.hid (HRF.out.below Q7)
  obtain ⟨G, hG⟩ : ∃ G, w5.heap.size = G := ⟨_, rfl⟩
  obtain ⟨G1, hG1⟩ : ∃ G1, w1.heap.size = G1 := ⟨_, rfl⟩
  rw [hG] at g0 g1 hzk nzk ⊢
  rw [hG1] at k0 k1 hzk nzk ⊢
  clear hG hG1 Q2 Q3 Q5 Q6 Q7 HR HR6 HRF
  have H0 : Hid (hnN L 0 = 0) := rfl
  go_wp2
  go_loopw [15, 16] (fun n i wr => ∃ k : Nat, k ≤ N ∧ i = .int .i64 k ∧ n = .int .i64 (hnN L k) ∧ Below w7.heap.size w7 wr) (fun _ i _ => N - (intOf i).toNat)
  case atStart => exact ⟨0, by omega, by go_num, by rw [H0.out], Below.refl _ _⟩
  case round =>
    obtain ⟨k, hk, rfl, rfl, BR⟩ := hrel
    obtain ⟨wo, rfl⟩ : ∃ wo : World, wo = wr := ⟨_, rfl⟩
    replace k0 := keepc BR k0
    replace k1 := keepc BR k1
    replace g0 := keepc BR g0
    replace g1 := keepc BR g1
    by_cases hlt : k < N
    · have hkL : k < L.length := by have := HNL.out; omega
      obtain ⟨h, n, d, y, hdot, hd, hn1, hn2, hy, hcase⟩ := HOK.out k hkL
      obtain ⟨b1, o1, rfl, x0, x1, x2, x3, x4⟩ := rdD_at (HRF7.out.below BR) k hkL
      rw [hdot] at x0 x1 x2 x3 x4
      dsimp only at x0 x1 x2 x3 x4
      have hS := hnN_succ hkL
      rw [hdot] at hS
      dsimp only at hS
      have hhn := hnN_bd L k
      have HDO : Hid (dotOfP p B D x k t = ((k : Int), h, n, d, y)) := by
        unfold Hid dotOfP
        rw [if_neg (by rw [HFC.out]; decide), if_neg (by rw [HPN.out, inB_iff.2 ⟨by omega, by omega⟩]; decide), Int.toNat_natCast, HLL.out]
        rw [← hdot]; simp [List.getD, hkL]
      have HDC : Hid (dotOfC p B D x k t = 0) := by
        unfold Hid dotOfC
        rw [if_neg (by rw [HFC.out]; decide), if_neg (by rw [HPN.out, inB_iff.2 ⟨by omega, by omega⟩]; decide)]
      clear hdot
      have hz1 : b1 < wo.heap.size := World.block_lt_of_cell? _ _ x0
      have hz2 : G < wo.heap.size := World.block_lt_of_cell? _ _ g0
      have hz3 : G1 < wo.heap.size := World.block_lt_of_cell? _ _ k0
      have nz1 : ¬ wo.heap.size = b1 := by omega
      have nz2 : ¬ wo.heap.size = G := by omega
      have nz3 : ¬ wo.heap.size = G1 := by omega
      have hin0 : (0 : Int) ≤ (k : Int) := Int.natCast_nonneg _
      have hin1 : (k : Int) < (N : Int) := by omega
      have Q8 : Below wo.heap.size wo (wo.alloc (Obj.cells #[.int .i64 k, .int .i64 h, .int .i64 n, .int .i64 d, .int .i64 y] 71)) := (Below.refl _ _).al _
      have d0 : (wo.alloc (Obj.cells #[.int .i64 k, .int .i64 h, .int .i64 n, .int .i64 d, .int .i64 y] 71)).cell? ⟨wo.heap.size, 0, none⟩ = some (.int .i64 k) := World.cell?_alloc_at _ _ _ _ rfl
      have d1 : (wo.alloc (Obj.cells #[.int .i64 k, .int .i64 h, .int .i64 n, .int .i64 d, .int .i64 y] 71)).cell? ⟨wo.heap.size, 1, none⟩ = some (.int .i64 h) := World.cell?_alloc_at _ _ _ _ rfl
      have d2 : (wo.alloc (Obj.cells #[.int .i64 k, .int .i64 h, .int .i64 n, .int .i64 d, .int .i64 y] 71)).cell? ⟨wo.heap.size, 2, none⟩ = some (.int .i64 n) := World.cell?_alloc_at _ _ _ _ rfl
      have d3 : (wo.alloc (Obj.cells #[.int .i64 k, .int .i64 h, .int .i64 n, .int .i64 d, .int .i64 y] 71)).cell? ⟨wo.heap.size, 3, none⟩ = some (.int .i64 d) := World.cell?_alloc_at _ _ _ _ rfl
      have d4 : (wo.alloc (Obj.cells #[.int .i64 k, .int .i64 h, .int .i64 n, .int .i64 d, .int .i64 y] 71)).cell? ⟨wo.heap.size, 4, none⟩ = some (.int .i64 y) := World.cell?_alloc_at _ _ _ _ rfl
      go_wp2_with fail
      generalize (wo.alloc (Obj.cells #[.int .i64 k, .int .i64 h, .int .i64 n, .int .i64 d, .int .i64 y] 71)) = W8 at *
      replace k0 := keepc Q8 k0
      replace k1 := keepc Q8 k1
      replace g0 := keepc Q8 g0
      replace g1 := keepc Q8 g1
      clear x0 x1 x2 x3 x4
      refine (c_impl_DotOf p B D x k t _ _ (HR7.out.below (BR.tr Q8))).mono ?_; rintro e w9 ⟨rfl, Q9⟩
      rw [HDO.out, HDC.out]
      replace d0 := keepc Q9 d0
      replace d1 := keepc Q9 d1
      replace d2 := keepc Q9 d2
      replace d3 := keepc Q9 d3
      replace d4 := keepc Q9 d4
      replace k0 := keepc Q9 k0
      replace k1 := keepc Q9 k1
      replace g0 := keepc Q9 g0
      replace g1 := keepc Q9 g1
      have hz4 : wo.heap.size < w9.heap.size := World.block_lt_of_cell? _ _ d0
      have nz4 : ¬ w9.heap.size = wo.heap.size := by omega
      have nz5 : ¬ w9.heap.size = G := by omega
      have nz6 : ¬ w9.heap.size = G1 := by omega
      have hz5 : G < w9.heap.size := by omega
      have hz6 : G1 < w9.heap.size := by omega
      have BY := ((BR.tr Q8).tr Q9).al (Obj.cells #[.int .i64 k, .int .i64 h, .int .i64 n, .int .i64 d, .int .i64 y] 71)
      obtain ⟨F, hF⟩ : ∃ F, wo.heap.size = F := ⟨_, rfl⟩
      rw [hF] at d0 d1 d2 d3 d4 hz4 nz4 nz1 nz2 nz3 hz1 hz2 hz3 ⊢
      clear Q8 Q9 BR hF
      have q := fun w => neDot w (k : Int) h n d y (k : Int) h n d y
      rw [decide_eq_true (⟨rfl, rfl, rfl, rfl, rfl⟩ : (k : Int) = k ∧ h = h ∧ n = n ∧ d = d ∧ y = y)] at q
      have g := gDot
      obtain ⟨Z, hZ⟩ : ∃ Z, hnN L k = Z := ⟨_, rfl⟩
      rw [hZ] at hS hhn ⊢
      have hm1 : 0 ≤ 3 * x * d ∧ 3 * x * d ≤ 48 * 1000 := ⟨Int.mul_nonneg (by omega) (by omega), Int.mul_le_mul (by omega) hd.2 (by omega) (by omega)⟩
      obtain ⟨M, hM⟩ : ∃ M, 3 * x * d = M := ⟨_, rfl⟩
      have hM2 : -3 * x * d = -M := by rw [← hM, ← Int.neg_mul, ← Int.neg_mul]
      have hM3 : -(3 * x) * d = -M := by rw [← hM, Int.neg_mul]
      have hm3 : 0 ≤ x * d ∧ x * d ≤ 16 * 1000 := ⟨Int.mul_nonneg (by omega) (by omega), Int.mul_le_mul (by omega) hd.2 (by omega) (by omega)⟩
      obtain ⟨M3, hM4⟩ : ∃ M3, x * d = M3 := ⟨_, rfl⟩
      have hM5 : -x * d = -M3 := by rw [← hM4, Int.neg_mul]
      rw [hM] at hm1 hn1
      rw [hM3] at hn2
      rw [hM4] at hm3
      rw [hM5, hM4] at hcase
      have hw1 : IntKind.i64.wrap (3 * x * d) = M := by rw [hM]; exact IntWalk.i64_in _ (by omega)
      have hw2 : IntKind.i64.wrap (-3 * x * d) = -M := by rw [hM2]; exact IntWalk.i64_in _ (by omega)
      have hw3 : IntKind.i64.wrap (-(3 * x) * d) = -M := by rw [hM3]; exact IntWalk.i64_in _ (by omega)
      have hw4 : IntKind.i64.wrap (x * d) = M3 := by rw [hM4]; exact IntWalk.i64_in _ (by omega)
      have hw5 : IntKind.i64.wrap (-x * d) = -M3 := by rw [hM5]; exact IntWalk.i64_in _ (by omega)
      clear hM hM2 hM3 hM4 hM5 hZ
      simp only [aggDot]
      clear HB0 HB1 hla hlm hlong B1 hB hD HV HTT HFF HC HFC HDT HOK HDL HPN HNL HFSC HFSL HLL HHD2 hhb HHN HR7 BB7 H0 HRF7 ht0 ht HDO HDC hkL hzk nzk k0 k1 hm3 hz1 nz1 nz2 nz3 hz3 hz2
      rcases hcase with rfl | ⟨rfl, rfl, hle⟩ | ⟨rfl, rfl, hge⟩
      · skip
        have HS : Hid (hnN L (k + 1) = Z) := by unfold Hid; rw [hS, if_neg (by omega), Int.add_zero]
        clear hS
        go_wp2
        all_goals (go_roundw; (case rel => (exact ⟨k + 1, by omega, by go_num, by rw [HS.out], by first | exact BY | exact BY.drN _⟩)); (case measure => (simp [intOf]; omega)))
      · skip
        have HS : Hid (hnN L (k + 1) = Z + 1) := by unfold Hid; rw [hS, if_pos (by omega)]
        clear hS
        go_wp2
        all_goals (go_roundw; (case rel => (exact ⟨k + 1, by omega, by go_num, by rw [HS.out], by first | exact BY | exact BY.drN _⟩)); (case measure => (simp [intOf]; omega)))
      · skip
        have HS : Hid (hnN L (k + 1) = Z + 1) := by unfold Hid; rw [hS, if_pos (by omega)]
        clear hS
        go_wp2
        all_goals (go_roundw; (case rel => (exact ⟨k + 1, by omega, by go_num, by rw [HS.out], by first | exact BY | exact BY.drN _⟩)); (case measure => (simp [intOf]; omega)))
    · have hkN : N = k := by omega
      subst hkN
      have HRF8 := Lib.hid (HRF7.out.below BR)
      have HR8 := Lib.hid (HR7.out.below BR)
      have BB8 := BB7.tr BR
      clear BR BB7 HRF7 HR7
      go_wp2_with fail
      refine (c_impl_HighestDot p B D x t _ _ HR8.out).mono ?_; rintro e w9 ⟨rfl, Q9⟩
      replace k0 := keepc Q9 k0
      replace k1 := keepc Q9 k1
      replace g0 := keepc Q9 g0
      replace g1 := keepc Q9 g1
      by_cases hN0 : N = 0
      · subst hN0
        have HPI : Hid (hiOfP p B D x t = zDot) := by
          unfold Hid hiOfP
          rw [if_neg (by rw [HFC.out]; decide), HLL.out, if_pos HNL.out]
        have HCI : Hid (hiOfC p B D x t = 3) := by
          unfold Hid hiOfC
          rw [if_neg (by rw [HFC.out]; decide), HLL.out, if_pos HNL.out]
        rw [HPI.out, HCI.out, H0.out]
        simp only [aggDot, zDot]
        go_wp2
        go_ret
        exact ⟨rfl, by first | exact (BB8.tr Q9).al _ | (repeat (first | (with_reducible assumption) | (with_reducible exact Below.refl _ _) | (with_reducible refine Below.setCell ?_ (by first | (simp; done) | (simp; omega)) _) | (with_reducible refine Below.al ?_ _) | (with_reducible refine Below.dr ?_) | (with_reducible refine Below.drN ?_ _) | (with_reducible refine Below.tr ?_ (by with_reducible assumption))))⟩
      · obtain ⟨j, hj, hje, hall⟩ := hi_ok (L := L) N (by omega) (by have := HNL.out; omega)
        have hjL : j < L.length := by have := HNL.out; omega
        obtain ⟨hb, nb, db, yb, hdb, -⟩ := HOK.out j hjL
        have hgj : L.getD j zDot = ((j : Int), hb, nb, db, yb) := by rw [← hdb]; simp [List.getD, hjL]
        rw [hgj] at hje hall
        dsimp only at hall
        have HPI : Hid (hiOfP p B D x t = ((j : Int), hb, nb, db, yb)) := by
          unfold Hid hiOfP
          rw [if_neg (by rw [HFC.out]; decide), HLL.out, if_neg (by have := HNL.out; omega), HNL.out]
          exact hje
        have HCI : Hid (hiOfC p B D x t = 0) := by
          unfold Hid hiOfC
          rw [if_neg (by rw [HFC.out]; decide), HLL.out, if_neg (by have := HNL.out; omega)]
        have HALL : Hid (∀ i (hi : i < L.length), ∃ h n d y : Int, L[i] = ((i : Int), h, n, d, y) ∧ y ≤ yb ∧ (y = yb → j ≤ i)) := fun i hi => by
          obtain ⟨h, n, d, y, hd, -⟩ := HOK.out i hi
          have hg : L.getD i zDot = ((i : Int), h, n, d, y) := by rw [← hd]; simp [List.getD, hi]
          have h2 := hall i (by have := HNL.out; omega)
          rw [hg] at h2
          exact ⟨h, n, d, y, hd, h2⟩
        rw [HPI.out, HCI.out, HHD2.out]
        simp only [aggDot]
        clear hall hje hdb hgj HPI HCI HOK
        have tN : ((N : Int) == 0) = false := by simpa using hN0
        have Q10 : Below w9.heap.size w9 (w9.alloc (Obj.cells #[.int .i64 j, .int .i64 hb, .int .i64 nb, .int .i64 db, .int .i64 yb] 71)) := (Below.refl _ _).al _
        have d0 : (w9.alloc (Obj.cells #[.int .i64 j, .int .i64 hb, .int .i64 nb, .int .i64 db, .int .i64 yb] 71)).cell? ⟨w9.heap.size, 0, none⟩ = some (.int .i64 j) := World.cell?_alloc_at _ _ _ _ rfl
        have d4 : (w9.alloc (Obj.cells #[.int .i64 j, .int .i64 hb, .int .i64 nb, .int .i64 db, .int .i64 yb] 71)).cell? ⟨w9.heap.size, 4, none⟩ = some (.int .i64 yb) := World.cell?_alloc_at _ _ _ _ rfl
        go_wp2
        generalize (w9.alloc (Obj.cells #[.int .i64 j, .int .i64 hb, .int .i64 nb, .int .i64 db, .int .i64 yb] 71)) = w10 at *
        replace k0 := keepc Q10 k0
        replace k1 := keepc Q10 k1
        replace g0 := keepc Q10 g0
        replace g1 := keepc Q10 g1
        have HRF9 := Lib.hid ((HRF8.out.below Q9).below Q10)
        have HR9 := Lib.hid ((HR8.out.below Q9).below Q10)
        have BB9 := (BB8.tr Q9).tr Q10
        clear HRF8 HR8 BB8 Q9 Q10
        obtain ⟨F, hF⟩ : ∃ F, w9.heap.size = F := ⟨_, rfl⟩
        rw [hF] at d0 d4 ⊢
        clear hF
        go_loopw [22] (fun i wr => ∃ m : Nat, m ≤ N ∧ i = .int .i64 m ∧ Below w10.heap.size w10 wr) (fun i _ => N - (intOf i).toNat)
        case atStart => exact ⟨0, by omega, by go_num, Below.refl _ _⟩
        case round =>
          obtain ⟨m, hm, rfl, BR⟩ := hrel
          obtain ⟨wo, rfl⟩ : ∃ wo : World, wo = wr := ⟨_, rfl⟩
          replace k0 := keepc BR k0
          replace k1 := keepc BR k1
          replace g0 := keepc BR g0
          replace g1 := keepc BR g1
          replace d0 := keepc BR d0
          replace d4 := keepc BR d4
          by_cases hlt2 : m < N
          · have hmL : m < L.length := by have := HNL.out; omega
            obtain ⟨h, n, d, y, hdot, hle, hji⟩ := HALL.out m hmL
            obtain ⟨b1, o1, rfl, x0, x1, x2, x3, x4⟩ := rdD_at (HRF9.out.below BR) m hmL
            rw [hdot] at x0 x1 x2 x3 x4
            dsimp only at x0 x1 x2 x3 x4
            clear hdot
            have hin0 : (0 : Int) ≤ (m : Int) := Int.natCast_nonneg _
            have hin1 : (m : Int) < (N : Int) := by omega
            by_cases hye : y = yb
            · subst hye
              have hjm : (j : Int) ≤ m := by have := hji rfl; omega
              have tgt : decide ((m : Int) < (j : Int)) = false := decide_eq_false (by omega)
              clear hji hle
              go_wp2_with fail
              go_quiet (fail)
              go_wp2_with fail
              go_roundw
              case rel => exact ⟨m + 1, by omega, by go_num, BR.drN _⟩
              case measure => simp [intOf]; omega
            · have hlt3 : y < yb := by omega
              have tne : (y == yb) = false := beq_eq_false_iff_ne.2 hye
              have tgt : decide (yb < y) = false := decide_eq_false (by omega)
              clear hji hle hye
              go_wp2_with fail
              go_quiet (fail)
              go_wp2_with fail
              go_roundw
              case rel => exact ⟨m + 1, by omega, by go_num, BR.drN _⟩
              case measure => simp [intOf]; omega
          · have hmN : N = m := by omega
            subst hmN
            have BB10 := BB9.tr BR
            have HRF10 := Lib.hid (HRF9.out.below BR)
            have HR10 := Lib.hid (HR9.out.below BR)
            clear BR HRF9 HR9 BB9 d0 d4
            go_wp2_with fail
            refine (c_impl_FramesOf p B D x t 3 4 _ _ HR10.out (by omega) (by omega)).mono ?_; rintro e w11 ⟨v11, rfl, ho, Q11⟩
            rw [HFSC.out]
            rw [HFSL.out] at ho
            obtain ⟨al, cl, rfl, -, hcl⟩ := ho.rd
            obtain ⟨b0, o0, u0, rfl, y0, y1, yr⟩ := hcl 0 (by simp)
            obtain ⟨b3, o3, u3, he3, z0, -, -⟩ := hcl 3 (by simp)
            cases he3
            have y0 : w11.cell? ⟨b0, o0, none⟩ = some (.int .i64 t) := by simpa using y0
            have y1 : w11.cell? ⟨b0, o0 + 1, none⟩ = some u0 := by simpa using y1
            have z0 : w11.cell? ⟨b0, o0 + 6, none⟩ = some (.int .i64 (t + 9)) := by simpa using z0
            have yr : RdRow 5 rowD w11 u0 L := by simpa using yr
            replace g0 := keepc Q11 g0
            replace g1 := keepc Q11 g1
            have hf11 := HRF10.out.below Q11
            have yrd : RdRow 5 rowD w11.drew u0 L := yr
            have hfd : RdRow 5 rowD w11.drew (.slice af N cf) L := hf11
            have HSF : Hid (sameFrameB t L t L = true) := by unfold Hid sameFrameB; simp
            have BB11 := BB10.tr Q11
            have hw9 : IntKind.i64.wrap (t + 9) = t + 9 := IntWalk.i64_in _ (by omega)
            simp only [List.length_cons, List.length_nil, Nat.reduceAdd]
            clear hcl ho
            go_wp2_with fail
            go_region_held3 (fun w' => w'.cell? ⟨G, 0, none⟩ = some (.int .i64 t) ∧ w'.cell? ⟨G, 1, none⟩ = some (.slice af N cf) ∧ w'.cell? ⟨b0, o0, none⟩ = some (.int .i64 t) ∧ w'.cell? ⟨b0, o0 + 1, none⟩ = some u0 ∧ w'.cell? ⟨b0, o0 + 6, none⟩ = some (.int .i64 (t + 9)))
              (go_keep)
              ((go_at_call 44; refine (c_spec_SameFrame t t L L _ _ _ yrd hfd).mono ?_; rintro e w12 ⟨rfl, Q12⟩; rw [HSF.out]; have Q12 := below_drew Q12; replace g0 := keepc Q12 g0; replace g1 := keepc Q12 g1; replace y0 := keepc Q12 y0; replace y1 := keepc Q12 y1; replace z0 := keepc Q12 z0))
            go_wp2
            go_ret
            exact ⟨by simp, BB11.tr Q12⟩
theorem own : ownKnob Try.prog.godebug = none := by kernel_rfl
theorem laidOut : laidOutB Try.prog = true := by kernel_rfl
set_option maxRecDepth 100000 in
theorem lifted (os : Os) (started : os.Started) (H : Type) (enc : TypeId × Value → H) :
    ReturnsInHanded {} Try.checked os 6 .any (Rows.fnFramesSpec.pre6 enc Try.prog Try.f6 Rows.fnFramesRow.domain false) (Rows.fnFramesSpec.post enc Try.prog Try.f6 false true false false) := by
  refine returnsInHanded_of_change (C := Try.checked) own started (by kernel_rfl) Try.func6
    (ChangeSpec.witness6 (enc := enc) (C := Try.checked) false ⟨#[], #[.slice none 0 0, .slice none 0 0], []⟩ 8 (by kernel_rfl) (by kernel_rfl) (by kernel_rfl) (by kernel_rfl)) ?_
  intro W base args ds gs before hval0 hW hcnd _
  have hval : ∀ (j : Nat) t v, Try.f6.params[j]? = some t → args[j]? = some v → Value.okWide Try.prog W .any base t v := hval0
  have hW' := hW
  obtain ⟨p, q, hA0, hV, rfl, hfz, hnd⟩ := hW
  have hA : DataW.TrodAll enc Try.prog W 0 (fun _ => true) true Try.f6.params.toList args.toList ds p := hA0
  rw [Try.params6] at hA hval
  obtain ⟨v0, vs0, d0, ds0, p0, q0, hargs, rfl, rfl, h0, r0⟩ := trodAll_cons hA
  obtain ⟨v1, vs1, d1, ds1, p1, q1, rfl, rfl, rfl, h1, r1⟩ := trodAll_cons r0
  obtain ⟨rfl, rfl, rfl⟩ := trodAll_nil r1
  obtain rfl : args = #[v0, v1] := by cases args; simp_all
  obtain ⟨rfl, rfl⟩ := trodVars_none hV
  have k0 := h0
  have lt0 : ∀ x ∈ p0, x.block < W.heap.size := by obtain ⟨m, hm⟩ := k0; exact DataW.trod_lt m _ _ _ hm
  have a0 := open_bytes (hval 0 22 v0 rfl rfl) h0
  have k1 := h1
  have lt1 : ∀ x ∈ p1, x.block < W.heap.size := by obtain ⟨m, hm⟩ := k1; exact DataW.trod_lt m _ _ _ hm
  have a1 := open_bytes (hval 1 22 v1 rfl rfl) h1
  clear hA0 hval0
  refine (walk v0 v1 W a0 a1).mono fun e W' ⟨he, bel⟩ => ?_
  subst he
  exact ⟨_, rfl, _, _, _, [], _, [], hW', trodAll_mk1 (shut_bool Try.underlying4 _), (trodAll_cons_mk (Below.trod laidOut (by kernel_rfl) (of_decide_eq_true (by kernel_rfl)) k0 bel lt0) (trodAll_cons_mk (Below.trod laidOut (by kernel_rfl) (of_decide_eq_true (by kernel_rfl)) k1 bel lt1) trodAll_mk0)), rfl, bel.frame _, fun h => by cases h⟩
theorem over : Rows.fnFramesRow.holds Try.pinned (OpenSpec.ofChange Rows.fnFramesSpec) :=
  OpenClaim.holds_of_wide 6 Try.f6 rfl rfl rfl rfl rfl rfl rfl ⟨rfl, rfl, rfl, rfl, rfl⟩ rfl rfl rfl rfl rfl (by kernel_rfl) Try.func6 (by kernel_rfl)
    (of_decide_eq_true (by kernel_rfl)) (by unfold Func.isWrapper; first | (rw [if_pos (by decide +kernel)]; kernel_rfl) | (rw [if_neg (by decide +kernel)]; exact ⟨rfl, rfl⟩))
    (fun os started H enc _ => lifted os started H enc)
theorem proved : Rows.FnFramesSaid := over
end fnFrames
end Go.Proofs.Ytpcaaohdlcoplaa
