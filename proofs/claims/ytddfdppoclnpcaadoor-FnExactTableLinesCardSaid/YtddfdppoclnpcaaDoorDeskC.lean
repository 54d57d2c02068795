/- Contracts: texts of timings and desks. -/
import Derived.Test.YtddfdppoclnpcaaDoorHandT
import Derived.Test.YtddfdppoclnpcaaDoorPtxtI
import Derived.Test.YtddfdppoclnpcaaDoorValidD
namespace Go.Proofs.YtddfdppoclnpcaaDoor
open Go.ChangeShapes Go.WideShapes Go.ChangeAt Go.RowKit
set_option linter.unusedVariables false
set_option linter.unusedSimpArgs false
def timT (b d : Int) : ByteArray := decT b ++ ⟨#[47]⟩ ++ decT d
theorem validT_bd {b d : Int} (h : validT b d = true) : (2 ≤ b ∧ b ≤ 30) ∧ (1 ≤ d ∧ d ≤ 2 * b) := by
  unfold validT at h
  rw [Bool.and_eq_true, inB_iff, inB_iff] at h
  exact h
theorem timT_size {b d : Int} (h : validT b d = true) : (timT b d).size ≤ 41 := by
  have := validT_bd h
  have h1 := decT_size (n := b) (by omega)
  have h2 := decT_size (n := d) (by omega)
  unfold timT
  rw [ByteArray.size_append, ByteArray.size_append]
  show _ + 1 + _ ≤ _
  omega
set_option maxHeartbeats 2000000 in
set_option maxRecDepth 100000 in
theorem c_impl_TimingText (b d : Int) (w : World) (hv : validT b d = true) (hT : Tab w) :
    Calls Tryd.prog 51 #[.agg #[.int .i64 b, .int .i64 d]] w fun e w' => e = .returned (.string (timT b d)) ∧ Below w.heap.size w w' := by
  obtain ⟨W0, hW0, k0, k1, B0⟩ := oneState w 56 b d
  have hTab := tab_below hT B0
  have hbd := validT_bd hv
  have hb : inI b := by unfold inI; omega
  have hd : inI d := by unfold inI; omega
  have hd1 := decT_size hb
  have hd2 := decT_size hd
  have HF : Hid (timT b d = decT b ++ ⟨#[47]⟩ ++ decT d) := rfl
  obtain ⟨D1, HD1⟩ : ∃ D, Hid (decT b = D) := ⟨_, Lib.hid rfl⟩
  obtain ⟨D2, HD2⟩ : ∃ D, Hid (decT d = D) := ⟨_, Lib.hid rfl⟩
  rw [HD1.out, HD2.out] at HF
  rw [HD1.out] at hd1
  rw [HD2.out] at hd2
  have s1 : ¬ 9223372036854775807 < D1.size + 1 := by omega
  have s2 : ¬ 9223372036854775807 < D1.size + 1 + D2.size := by omega
  clear hT
  go_enter Tryd.func51, Tryd.ntmps51
  go_wp2_with fail
  rw [← hW0]
  clear hW0
  refine (c_impl_ValidTiming b d _).mono ?_; rintro e w0 ⟨rfl, hb0⟩; rw [hv]
  have k0 := keepc hb0 k0
  have k1 := keepc hb0 k1
  have hTab := tab_below hTab hb0
  have hTabD : Tab w0.drew := hTab
  clear hv
  go_wp2_with fail
  go_region_held3 (fun w' => w'.cell? ⟨w.heap.size, 0, none⟩ = some (.int .i64 b) ∧ w'.cell? ⟨w.heap.size, 1, none⟩ = some (.int .i64 d))
    (go_keep)
    (first
      | ((go_at_call 36; (with_reducible refine (c_decI b D1 HD1 _ hb hTabD).mono ?_); rintro e w1 ⟨rfl, hb1⟩; have hb1 := below_drew hb1; have c0 := keepc hb1 k0; have c1 := keepc hb1 k1; have hT1 := tab_below hTab hb1))
      | ((go_at_call 36; (with_reducible refine (c_decI d D2 HD2 _ hd hT1).mono ?_); rintro e w2 ⟨rfl, hb2⟩; have d0 := keepc hb2 c0; have d1 := keepc hb2 c1)))
  go_wp2
  go_ret
  exact ⟨by rw [HF.out]; rfl, ((B0.tr hb0).tr hb1).tr hb2⟩
set_option maxHeartbeats 2000000 in
set_option maxRecDepth 100000 in
theorem c_spec_TimingText (b d : Int) (w : World) (hv : validT b d = true) :
    Calls Tryd.prog 67 #[.agg #[.int .i64 b, .int .i64 d]] w fun e w' => e = .returned (.string (timT b d)) ∧ Below w.heap.size w w' := by
  obtain ⟨W0, hW0, k0, k1, B0⟩ := oneState w 56 b d
  have hbd := validT_bd hv
  have hb : inI b := by unfold inI; omega
  have hd : inI d := by unfold inI; omega
  have hd1 := decT_size hb
  have hd2 := decT_size hd
  have HF : Hid (timT b d = decT b ++ ⟨#[47]⟩ ++ decT d) := rfl
  obtain ⟨D1, HD1⟩ : ∃ D, Hid (decT b = D) := ⟨_, Lib.hid rfl⟩
  obtain ⟨D2, HD2⟩ : ∃ D, Hid (decT d = D) := ⟨_, Lib.hid rfl⟩
  rw [HD1.out, HD2.out] at HF
  rw [HD1.out] at hd1
  rw [HD2.out] at hd2
  have s1 : ¬ 9223372036854775807 < D1.size + 1 := by omega
  have s2 : ¬ 9223372036854775807 < D1.size + 1 + D2.size := by omega
  go_enter Tryd.func67, Tryd.ntmps67
  go_wp2_with fail
  rw [← hW0]
  clear hW0
  refine (c_spec_l15Ok b d _).mono ?_; rintro e w0 ⟨rfl, hb0⟩; rw [hv]
  have k0 := keepc hb0 k0
  have k1 := keepc hb0 k1
  clear hv
  go_wp2_with fail
  go_region_held3 (fun w' => w'.cell? ⟨w.heap.size, 0, none⟩ = some (.int .i64 b) ∧ w'.cell? ⟨w.heap.size, 1, none⟩ = some (.int .i64 d))
    (go_keep)
    (first
      | ((go_at_call 34; (with_reducible refine (c_decS b D1 HD1 _ hb).mono ?_); rintro e w1 ⟨rfl, hb1⟩; have hb1 := below_drew hb1; have c0 := keepc hb1 k0; have c1 := keepc hb1 k1))
      | ((go_at_call 34; (with_reducible refine (c_decS d D2 HD2 _ hd).mono ?_); rintro e w2 ⟨rfl, hb2⟩; have d0 := keepc hb2 c0; have d1 := keepc hb2 c1)))
  go_wp2
  go_ret
  exact ⟨by rw [HF.out]; rfl, ((B0.tr hb0).tr hb1).tr hb2⟩
def dskT (xs : List Int) (b d wd : Int) : ByteArray := bif validD xs b d wd then hexT xs ++ ⟨#[32]⟩ ++ timT b d ++ ⟨#[32]⟩ ++ decT wd else ⟨#[]⟩
theorem dsk_no {xs : List Int} {b d wd : Int} (h : validD xs b d wd = false) : Hid (dskT xs b d wd = ⟨#[]⟩) := by unfold Hid dskT; rw [h]; rfl
theorem dsk_yes {xs : List Int} {b d wd : Int} (h : validD xs b d wd = true) : Hid (dskT xs b d wd = hexT xs ++ ⟨#[32]⟩ ++ timT b d ++ ⟨#[32]⟩ ++ decT wd) := by unfold Hid dskT; rw [h]; rfl
theorem validD_of {xs : List Int} {b d wd : Int} (h : validD xs b d wd = true) : validP xs = true ∧ validT b d = true ∧ (0 ≤ wd ∧ wd ≤ 16) := by
  unfold validD at h
  rw [Bool.and_eq_true, Bool.and_eq_true, inB_iff] at h
  exact ⟨h.1.1, h.1.2, h.2⟩
theorem boxDesk (w : World) (v : Value) (b d wd : Int) : ∃ W0, W0 = w.alloc (Obj.cells #[v, Value.int IntKind.i64 b, Value.int IntKind.i64 d, Value.int IntKind.i64 wd] 58) ∧
    W0.cell? ⟨w.heap.size, 0, none⟩ = some v ∧ W0.cell? ⟨w.heap.size, 1, none⟩ = some (.int .i64 b) ∧ W0.cell? ⟨w.heap.size, 2, none⟩ = some (.int .i64 d) ∧ W0.cell? ⟨w.heap.size, 3, none⟩ = some (.int .i64 wd) ∧ Below w.heap.size w W0 := by
  refine ⟨_, rfl, ?_, ?_, ?_, ?_, (Below.refl _ _).al _⟩ <;> go_simp
theorem c_timI (b d : Int) (D : ByteArray) (hD : Hid (timT b d = D)) (w : World) (hv : Hid (validT b d = true)) (hT : Tab w) :
    Calls Tryd.prog 51 #[.agg #[.int .i64 b, .int .i64 d]] w fun e w' => e = .returned (.string D) ∧ Below w.heap.size w w' := by
  rw [← hD.out]; exact c_impl_TimingText b d w hv.out hT
theorem c_timS (b d : Int) (D : ByteArray) (hD : Hid (timT b d = D)) (w : World) (hv : Hid (validT b d = true)) :
    Calls Tryd.prog 67 #[.agg #[.int .i64 b, .int .i64 d]] w fun e w' => e = .returned (.string D) ∧ Below w.heap.size w w' := by
  rw [← hD.out]; exact c_spec_TimingText b d w hv.out
theorem c_patI (xs : List Int) (D : ByteArray) (hD : Hid (hexT xs = D)) (v : Value) (w : World) (h : RdI w v xs) (hv : Hid (validP xs = true)) :
    Calls Tryd.prog 50 #[v] w fun e w' => e = .returned (.string D) ∧ Below w.heap.size w w' := by
  rw [← hD.out]; exact c_impl_PatternText xs v w h hv.out
theorem c_patS (xs : List Int) (D : ByteArray) (hD : Hid (hexT xs = D)) (v : Value) (w : World) (h : RdI w v xs) (hv : Hid (validP xs = true)) :
    Calls Tryd.prog 56 #[v] w fun e w' => e = .returned (.string D) ∧ Below w.heap.size w w' := by
  rw [← hD.out]
  have hok := okThrows_iff.1 (valid_ok hv.out)
  exact c_spec_l02Text xs v w h (fun x hx => by have := hok.1 x hx; omega)
set_option maxHeartbeats 4000000 in
set_option maxRecDepth 100000 in
theorem c_impl_DeskText (xs : List Int) (b d wd : Int) (v : Value) (w : World) (h : RdI w v xs) (hT : Tab w) :
    Calls Tryd.prog 22 #[.agg #[v, .int .i64 b, .int .i64 d, .int .i64 wd]] w fun e w' => e = .returned (.string (dskT xs b d wd)) ∧ Below w.heap.size w w' := by
  have H := Lib.hid h
  obtain ⟨a1, cap1, rfl, _, _⟩ := h
  obtain ⟨W0, hW0, k0, k1, k2, k3, B0⟩ := boxDesk w (.slice a1 xs.length cap1) b d wd
  have hTab := tab_below hT B0
  clear hT
  cases hv : validD xs b d wd
  · have HE := dsk_no hv
    go_enter Tryd.func22, Tryd.ntmps22
    go_wp2_with fail
    rw [← hW0]
    clear hW0
    refine (c_impl_ValidDesk xs b d wd _ _ (H.out.below B0)).mono ?_; rintro e w0 ⟨rfl, hb0⟩; rw [hv]
    go_wp2
    go_ret
    exact ⟨by rw [HE.out]; rfl, B0.tr hb0⟩
  · have HE := dsk_yes hv
    obtain ⟨hvp, hvt, hwd⟩ := validD_of hv
    have hn := okThrows_iff.1 (valid_ok hvp)
    have hw1 : inI wd := by unfold inI; omega
    have hd1 : (hexT xs).size ≤ 12 := by rw [hexT_size]; omega
    have hd2 := timT_size hvt
    have hd3 := decT_size hw1
    obtain ⟨D1, HD1⟩ : ∃ D, Hid (hexT xs = D) := ⟨_, Lib.hid rfl⟩
    obtain ⟨D2, HD2⟩ : ∃ D, Hid (timT b d = D) := ⟨_, Lib.hid rfl⟩
    obtain ⟨D3, HD3⟩ : ∃ D, Hid (decT wd = D) := ⟨_, Lib.hid rfl⟩
    rw [HD1.out, HD2.out, HD3.out] at HE
    rw [HD1.out] at hd1
    rw [HD2.out] at hd2
    rw [HD3.out] at hd3
    have s1 : ¬ 9223372036854775807 < D1.size + 1 := by omega
    have s2 : ¬ 9223372036854775807 < D1.size + 1 + D2.size := by omega
    have s3 : ¬ 9223372036854775807 < D1.size + 1 + D2.size + 1 := by omega
    have s4 : ¬ 9223372036854775807 < D1.size + 1 + D2.size + 1 + D3.size := by omega
    have HVP := Lib.hid hvp
    have HVT := Lib.hid hvt
    clear hn hvp hvt
    go_enter Tryd.func22, Tryd.ntmps22
    go_wp2_with fail
    rw [← hW0]
    clear hW0
    refine (c_impl_ValidDesk xs b d wd _ _ (H.out.below B0)).mono ?_; rintro e w0 ⟨rfl, hb0⟩; rw [hv]
    have B1 := B0.tr hb0
    have k0 := keepc hb0 k0
    have k1 := keepc hb0 k1
    have k2 := keepc hb0 k2
    have k3 := keepc hb0 k3
    have hTab := tab_below hTab hb0
    have hrd := H.out.below B1
    clear hv
    go_wp2_with fail
    go_region_held3 (fun w' => w'.cell? ⟨w.heap.size, 0, none⟩ = some (.slice a1 xs.length cap1) ∧ w'.cell? ⟨w.heap.size, 1, none⟩ = some (.int .i64 b) ∧ w'.cell? ⟨w.heap.size, 2, none⟩ = some (.int .i64 d) ∧ w'.cell? ⟨w.heap.size, 3, none⟩ = some (.int .i64 wd))
      (go_keep)
      (first
        | ((go_at_call 50; refine (c_patI xs D1 HD1 _ _ (by exact hrd) HVP).mono ?_; rintro e w1 ⟨rfl, hb1⟩; have hb1 := below_drew hb1; have c0 := keepc hb1 k0; have c1 := keepc hb1 k1; have c2 := keepc hb1 k2; have c3 := keepc hb1 k3; have hT1 := tab_below hTab hb1))
        | ((go_at_call 51; refine (c_timI b d D2 HD2 _ HVT hT1).mono ?_; rintro e w2 ⟨rfl, hb2⟩; have d0 := keepc hb2 c0; have d1 := keepc hb2 c1; have d2 := keepc hb2 c2; have d3 := keepc hb2 c3; have hT2 := tab_below hT1 hb2))
        | ((go_at_call 36; refine (c_decI wd D3 HD3 _ hw1 hT2).mono ?_; rintro e w3 ⟨rfl, hb3⟩; have e0 := keepc hb3 d0; have e1 := keepc hb3 d1; have e2 := keepc hb3 d2; have e3 := keepc hb3 d3)))
    go_wp2
    go_ret
    exact ⟨by rw [HE.out]; rfl, ((B1.tr hb1).tr hb2).tr hb3⟩
set_option maxHeartbeats 4000000 in
set_option maxRecDepth 100000 in
theorem c_spec_l28Text (xs : List Int) (b d wd : Int) (v : Value) (g : Nat) (w : World) (h : RdI w v xs) (hv : validD xs b d wd = true)
    (k0 : w.cell? ⟨g, 0, none⟩ = some v) (k1 : w.cell? ⟨g, 1, none⟩ = some (.int .i64 b)) (k2 : w.cell? ⟨g, 2, none⟩ = some (.int .i64 d)) (k3 : w.cell? ⟨g, 3, none⟩ = some (.int .i64 wd)) :
    Calls Tryd.prog 46 #[.pointer (some ⟨g, 0, none⟩)] w fun e w' => e = .returned (.string (dskT xs b d wd)) ∧ Below w.heap.size w w' := by
  have H := Lib.hid h
  obtain ⟨a1, cap1, rfl, _, _⟩ := h
  have HE := dsk_yes hv
  obtain ⟨hvp, hvt, hwd⟩ := validD_of hv
  have hn := okThrows_iff.1 (valid_ok hvp)
  have hw1 : inI wd := by unfold inI; omega
  have hd1 : (hexT xs).size ≤ 12 := by rw [hexT_size]; omega
  have hd2 := timT_size hvt
  have hd3 := decT_size hw1
  obtain ⟨D1, HD1⟩ : ∃ D, Hid (hexT xs = D) := ⟨_, Lib.hid rfl⟩
  obtain ⟨D2, HD2⟩ : ∃ D, Hid (timT b d = D) := ⟨_, Lib.hid rfl⟩
  obtain ⟨D3, HD3⟩ : ∃ D, Hid (decT wd = D) := ⟨_, Lib.hid rfl⟩
  rw [HD1.out, HD2.out, HD3.out] at HE
  rw [HD1.out] at hd1
  rw [HD2.out] at hd2
  rw [HD3.out] at hd3
  have s1 : ¬ 9223372036854775807 < D1.size + 1 := by omega
  have s2 : ¬ 9223372036854775807 < D1.size + 1 + D2.size := by omega
  have s3 : ¬ 9223372036854775807 < D1.size + 1 + D2.size + 1 := by omega
  have s4 : ¬ 9223372036854775807 < D1.size + 1 + D2.size + 1 + D3.size := by omega
  have HVP := Lib.hid hvp
  have HVT := Lib.hid hvt
  have hrd := H.out
  clear hn hvp hvt hv
  go_enter Tryd.func46, Tryd.ntmps46
  go_wp2_with fail
  go_region_held3 (fun w' => w'.cell? ⟨g, 0, none⟩ = some (.slice a1 xs.length cap1) ∧ w'.cell? ⟨g, 1, none⟩ = some (.int .i64 b) ∧ w'.cell? ⟨g, 2, none⟩ = some (.int .i64 d) ∧ w'.cell? ⟨g, 3, none⟩ = some (.int .i64 wd))
    (go_keep)
    (first
      | ((go_at_call 56; refine (c_patS xs D1 HD1 _ _ (by exact hrd) HVP).mono ?_; rintro e w1 ⟨rfl, hb1⟩; have hb1 := below_drew hb1; have c0 := keepc hb1 k0; have c1 := keepc hb1 k1; have c2 := keepc hb1 k2; have c3 := keepc hb1 k3))
      | ((go_at_call 67; refine (c_timS b d D2 HD2 _ HVT).mono ?_; rintro e w2 ⟨rfl, hb2⟩; have d0 := keepc hb2 c0; have d1 := keepc hb2 c1; have d2 := keepc hb2 c2; have d3 := keepc hb2 c3))
      | ((go_at_call 34; refine (c_decS wd D3 HD3 _ hw1).mono ?_; rintro e w3 ⟨rfl, hb3⟩; have e0 := keepc hb3 d0; have e1 := keepc hb3 d1; have e2 := keepc hb3 d2; have e3 := keepc hb3 d3)))
  go_wp2
  go_ret
  exact ⟨by rw [HE.out]; rfl, (hb1.tr hb2).tr hb3⟩
theorem c_spec_DeskText (xs : List Int) (b d wd : Int) (v : Value) (w : World) (h : RdI w v xs) :
    Calls Tryd.prog 20 #[.agg #[v, .int .i64 b, .int .i64 d, .int .i64 wd]] w fun e w' => e = .returned (.string (dskT xs b d wd)) ∧ Below w.heap.size w w' := by
  have H := Lib.hid h
  obtain ⟨a1, cap1, rfl, _, _⟩ := h
  obtain ⟨W0, hW0, k0, k1, k2, k3, B0⟩ := boxDesk w (.slice a1 xs.length cap1) b d wd
  cases hv : validD xs b d wd
  · have HE := dsk_no hv
    go_enter Tryd.func20, Tryd.ntmps20
    go_wp2_with fail
    rw [← hW0]
    clear hW0
    refine (c_spec_l28Ok xs b d wd _ _ _ (H.out.below B0) k0 k1 k2 k3).mono ?_; rintro e w0 ⟨rfl, hb0⟩; rw [hv]
    go_wp2
    go_ret
    exact ⟨by rw [HE.out]; rfl, B0.tr hb0⟩
  · have HV := Lib.hid hv
    go_enter Tryd.func20, Tryd.ntmps20
    go_wp2_with fail
    rw [← hW0]
    clear hW0
    refine (c_spec_l28Ok xs b d wd _ _ _ (H.out.below B0) k0 k1 k2 k3).mono ?_; rintro e w0 ⟨rfl, hb0⟩; rw [hv]
    have B1 := B0.tr hb0
    have k0 := keepc hb0 k0
    have k1 := keepc hb0 k1
    have k2 := keepc hb0 k2
    have k3 := keepc hb0 k3
    clear hv
    go_wp2_with fail
    refine (c_spec_l28Text xs b d wd _ _ _ (H.out.below B1) HV.out k0 k1 k2 k3).mono ?_; rintro e w1 ⟨rfl, hb1⟩
    go_wp2
    go_ret
    exact ⟨rfl, B1.tr hb1⟩
end Go.Proofs.YtddfdppoclnpcaaDoor
