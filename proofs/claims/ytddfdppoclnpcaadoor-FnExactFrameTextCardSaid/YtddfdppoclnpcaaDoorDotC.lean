/- Contracts: texts of fractions and dots. -/
import Derived.Test.YtddfdppoclnpcaaDoorHandT
namespace Go.Proofs.YtddfdppoclnpcaaDoor
open Go.ChangeShapes Go.WideShapes Go.ChangeAt Go.RowKit
set_option linter.unusedVariables false
set_option linter.unusedSimpArgs false
def frT (n d : Int) : ByteArray := if d < 1 then ⟨#[]⟩ else if d = 1 then decT n else decT n ++ ⟨#[47]⟩ ++ decT d
theorem fr_none {n d : Int} (h : d < 1) : Hid (frT n d = ⟨#[]⟩) := by unfold Hid frT; rw [if_pos h]
theorem fr_one {n d : Int} (h : d = 1) : Hid (frT n d = decT n) := by unfold Hid frT; rw [if_neg (by omega), if_pos h]
theorem fr_two {n d : Int} (h : ¬ d < 1) (h1 : ¬ d = 1) : Hid (frT n d = decT n ++ ⟨#[47]⟩ ++ decT d) := by unfold Hid frT; rw [if_neg h, if_neg h1]
theorem frT_size {n d : Int} (hn : inI n) (hd : inI d) : (frT n d).size ≤ 41 := by
  have h1 := decT_size hn
  have h2 := decT_size hd
  by_cases h : d < 1
  · rw [(fr_none h).out]; decide
  · by_cases h3 : d = 1
    · rw [(fr_one h3).out]; omega
    · rw [(fr_two h h3).out, ByteArray.size_append, ByteArray.size_append]
      show _ + 1 + _ ≤ _
      omega
set_option maxHeartbeats 2000000 in
set_option maxRecDepth 100000 in
theorem c_impl_FractionText (n d : Int) (w : World) (hn : inI n) (hd : inI d) (hT : Tab w) :
    Calls Tryd.prog 40 #[.agg #[.int .i64 n, .int .i64 d]] w fun e w' => e = .returned (.string (frT n d)) ∧ Below w.heap.size w w' := by
  obtain ⟨W0, hW0, k0, k1, B0⟩ := oneState w 33 n d
  have hTab := tab_below hT B0
  have hTabD : Tab W0.drew := hTab
  clear hT
  by_cases h0 : d < 1
  · have HF := fr_none (n := n) h0
    go_enter Tryd.func40, Tryd.ntmps40
    go_wp2
    go_ret
    exact ⟨by rw [HF.out]; rfl, by (repeat (first | (with_reducible assumption) | (with_reducible exact Below.refl _ _) | (with_reducible refine Below.setCell ?_ (by first | (simp; done) | (simp; omega)) _) | (with_reducible refine Below.al ?_ _) | (with_reducible refine Below.dr ?_) | (with_reducible refine Below.drN ?_ _) | (with_reducible refine Below.tr ?_ (by with_reducible assumption))))⟩
  · by_cases h1 : d = 1
    · have HF := fr_one (n := n) h1
      have t1 : (d == 1) = true := by simpa using h1
      have H1 := Lib.hid h1
      clear h1
      go_enter Tryd.func40, Tryd.ntmps40
      go_wp2_with fail
      rw [← hW0]
      clear hW0
      refine (c_impl_Decimal n _ hn hTab).mono ?_; rintro e w1 ⟨rfl, hb1⟩
      go_wp2
      go_ret
      exact ⟨by rw [HF.out]; rfl, B0.tr hb1⟩
    · have HF := fr_two (n := n) h0 h1
      have t1 : (d == 1) = false := by simpa using h1
      have hd1 := decT_size hn
      have hd2 := decT_size hd
      obtain ⟨D1, HD1⟩ : ∃ D, Hid (decT n = D) := ⟨_, Lib.hid rfl⟩
      obtain ⟨D2, HD2⟩ : ∃ D, Hid (decT d = D) := ⟨_, Lib.hid rfl⟩
      rw [HD1.out, HD2.out] at HF
      rw [HD1.out] at hd1
      rw [HD2.out] at hd2
      have s1 : ¬ 9223372036854775807 < D1.size + 1 := by omega
      have s2 : ¬ 9223372036854775807 < D1.size + 1 + D2.size := by omega
      go_enter Tryd.func40, Tryd.ntmps40
      go_wp2_with fail
      rw [← hW0]
      clear hW0
      go_region_held3 (fun w' => w'.cell? ⟨w.heap.size, 0, none⟩ = some (.int .i64 n) ∧ w'.cell? ⟨w.heap.size, 1, none⟩ = some (.int .i64 d))
        (go_keep)
        (first
          | ((go_at_call 36; (with_reducible refine (c_decI n D1 HD1 _ hn hTabD).mono ?_); rintro e w1 ⟨rfl, hb1⟩; have hb1 := below_drew hb1; have c0 := keepc hb1 k0; have c1 := keepc hb1 k1; have hT1 := tab_below hTab hb1))
          | ((go_at_call 36; (with_reducible refine (c_decI d D2 HD2 _ hd hT1).mono ?_); rintro e w2 ⟨rfl, hb2⟩; have d0 := keepc hb2 c0; have d1 := keepc hb2 c1)))
      go_wp2
      go_ret
      exact ⟨by rw [HF.out]; rfl, (B0.tr hb1).tr hb2⟩
set_option maxHeartbeats 2000000 in
set_option maxRecDepth 100000 in
theorem c_spec_l16Text (n d : Int) (w : World) (hn : inI n) (hd : inI d) (h0 : ¬ d < 1) :
    Calls Tryd.prog 81 #[.agg #[.int .i64 n, .int .i64 d]] w fun e w' => e = .returned (.string (frT n d)) ∧ Below w.heap.size w w' := by
  obtain ⟨W0, hW0, k0, k1, B0⟩ := oneState w 33 n d
  by_cases h1 : d = 1
  · have HF := fr_one (n := n) h1
    have t1 : (d == 1) = true := by simpa using h1
    have H1 := Lib.hid h1
    clear h1
    go_enter Tryd.func81, Tryd.ntmps81
    go_wp2_with fail
    rw [← hW0]
    clear hW0
    refine (c_spec_l01Dec n _ hn).mono ?_; rintro e w1 ⟨rfl, hb1⟩
    go_wp2
    go_ret
    exact ⟨by rw [HF.out]; rfl, B0.tr hb1⟩
  · have HF := fr_two (n := n) h0 h1
    have t1 : (d == 1) = false := by simpa using h1
    have hd1 := decT_size hn
    have hd2 := decT_size hd
    obtain ⟨D1, HD1⟩ : ∃ D, Hid (decT n = D) := ⟨_, Lib.hid rfl⟩
    obtain ⟨D2, HD2⟩ : ∃ D, Hid (decT d = D) := ⟨_, Lib.hid rfl⟩
    rw [HD1.out, HD2.out] at HF
    rw [HD1.out] at hd1
    rw [HD2.out] at hd2
    have s1 : ¬ 9223372036854775807 < D1.size + 1 := by omega
    have s2 : ¬ 9223372036854775807 < D1.size + 1 + D2.size := by omega
    go_enter Tryd.func81, Tryd.ntmps81
    go_wp2_with fail
    rw [← hW0]
    clear hW0
    go_region_held3 (fun w' => w'.cell? ⟨w.heap.size, 0, none⟩ = some (.int .i64 n) ∧ w'.cell? ⟨w.heap.size, 1, none⟩ = some (.int .i64 d))
      (go_keep)
      (first
        | ((go_at_call 34; (with_reducible refine (c_decS n D1 HD1 _ hn).mono ?_); rintro e w1 ⟨rfl, hb1⟩; have hb1 := below_drew hb1; have c0 := keepc hb1 k0; have c1 := keepc hb1 k1))
        | ((go_at_call 34; (with_reducible refine (c_decS d D2 HD2 _ hd).mono ?_); rintro e w2 ⟨rfl, hb2⟩; have d0 := keepc hb2 c0; have d1 := keepc hb2 c1)))
    go_wp2
    go_ret
    exact ⟨by rw [HF.out]; rfl, (B0.tr hb1).tr hb2⟩
theorem c_spec_FractionText (n d : Int) (w : World) (hn : inI n) (hd : inI d) :
    Calls Tryd.prog 62 #[.agg #[.int .i64 n, .int .i64 d]] w fun e w' => e = .returned (.string (frT n d)) ∧ Below w.heap.size w w' := by
  obtain ⟨W0, hW0, k0, k1, B0⟩ := oneState w 33 n d
  by_cases h0 : d < 1
  · have HF := fr_none (n := n) h0
    go_enter Tryd.func62, Tryd.ntmps62
    go_wp2
    go_ret
    exact ⟨by rw [HF.out]; rfl, by (repeat (first | (with_reducible assumption) | (with_reducible exact Below.refl _ _) | (with_reducible refine Below.setCell ?_ (by first | (simp; done) | (simp; omega)) _) | (with_reducible refine Below.al ?_ _) | (with_reducible refine Below.dr ?_) | (with_reducible refine Below.drN ?_ _) | (with_reducible refine Below.tr ?_ (by with_reducible assumption))))⟩
  · have H0 := Lib.hid h0
    go_enter Tryd.func62, Tryd.ntmps62
    go_wp2_with fail
    rw [← hW0]
    clear hW0
    refine (c_spec_l16Text n d _ hn hd (by have := H0.out; omega)).mono ?_; rintro e w1 ⟨rfl, hb1⟩
    go_wp2
    go_ret
    exact ⟨rfl, B0.tr hb1⟩
def dotB (x : Dot5) : ByteArray := decT x.1 ++ spT ++ handT x.2.1 ++ spT ++ frT x.2.2.1 x.2.2.2.1 ++ spT ++ decT x.2.2.2.2
def dotT (x : Dot5) : ByteArray := if x.2.1 = -1 ∨ x.2.1 = 0 ∨ x.2.1 = 1 then dotB x else ⟨#[]⟩
theorem hand_no {h : Int} (h0 : ¬ (h = -1 ∨ h = 0 ∨ h = 1)) : Hid (handT h = ⟨#[]⟩) := by
  unfold Hid handT; rw [if_neg (by omega), if_neg (by omega), if_neg (by omega)]
theorem hand_yes {h : Int} (h0 : h = -1 ∨ h = 0 ∨ h = 1) : (handT h).toList.isEmpty = false := by
  rcases h0 with rfl | rfl | rfl <;> kernel_rfl
theorem dot_no {p h n d y : Int} (h0 : ¬ (h = -1 ∨ h = 0 ∨ h = 1)) : Hid (dotT (p, h, n, d, y) = ⟨#[]⟩) := by unfold Hid dotT; rw [if_neg h0]
theorem dot_yes {p h n d y : Int} (h0 : h = -1 ∨ h = 0 ∨ h = 1) : Hid (dotT (p, h, n, d, y) = decT p ++ spT ++ handT h ++ spT ++ frT n d ++ spT ++ decT y) := by unfold Hid dotT; rw [if_pos h0]; rfl
theorem dotT_size {x : Dot5} (h : dotIn x) : (dotT x).size ≤ 100 := by
  obtain ⟨h1, h2, h3, h4, h5⟩ := h
  unfold dotT
  split
  · unfold dotB spT
    have a1 := decT_size h1
    have a2 := handT_size x.2.1
    have a3 := frT_size h3 h4
    have a4 := decT_size h5
    simp only [ByteArray.size_append]
    show _ + 1 + _ + 1 + _ + 1 + _ ≤ _
    omega
  · show 0 ≤ _; omega
theorem boxDot (w : World) (p h n d y : Int) : ∃ W0, W0 = w.alloc (Obj.cells #[Value.int IntKind.i64 p, Value.int IntKind.i64 h, Value.int IntKind.i64 n, Value.int IntKind.i64 d, Value.int IntKind.i64 y] 35) ∧
    W0.cell? ⟨w.heap.size, 0, none⟩ = some (.int .i64 p) ∧ W0.cell? ⟨w.heap.size, 1, none⟩ = some (.int .i64 h) ∧ W0.cell? ⟨w.heap.size, 2, none⟩ = some (.int .i64 n) ∧ W0.cell? ⟨w.heap.size, 3, none⟩ = some (.int .i64 d) ∧ W0.cell? ⟨w.heap.size, 4, none⟩ = some (.int .i64 y) ∧ Below w.heap.size w W0 := by
  refine ⟨_, rfl, ?_, ?_, ?_, ?_, ?_, (Below.refl _ _).al _⟩ <;> go_simp
set_option maxHeartbeats 4000000 in
set_option maxRecDepth 100000 in
theorem c_impl_DotText (p h n d y : Int) (w : World) (hp : inI p) (hn : inI n) (hd : inI d) (hy : inI y) (hT : Tab w) :
    Calls Tryd.prog 13 #[.agg #[.int .i64 p, .int .i64 h, .int .i64 n, .int .i64 d, .int .i64 y]] w fun e w' => e = .returned (.string (dotT (p, h, n, d, y))) ∧ Below w.heap.size w w' := by
  obtain ⟨W0, hW0, k0, k1, k2, k3, k4, B0⟩ := boxDot w p h n d y
  have hTab := tab_below hT B0
  have hTabD : Tab W0.drew := hTab
  clear hT
  by_cases h01 : h = -1 ∨ h = 0 ∨ h = 1
  · have hpos := hand_yes h01
    have HE := dot_yes (p := p) (n := n) (d := d) (y := y) h01
    have hd1 := decT_size hp
    have hd2 := handT_size h
    have hd3 := frT_size hn hd
    have hd4 := decT_size hy
    obtain ⟨D1, HD1⟩ : ∃ D, Hid (decT p = D) := ⟨_, Lib.hid rfl⟩
    obtain ⟨D2, HD2⟩ : ∃ D, Hid (handT h = D) := ⟨_, Lib.hid rfl⟩
    obtain ⟨D3, HD3⟩ : ∃ D, Hid (frT n d = D) := ⟨_, Lib.hid rfl⟩
    obtain ⟨D4, HD4⟩ : ∃ D, Hid (decT y = D) := ⟨_, Lib.hid rfl⟩
    rw [HD1.out, HD2.out, HD3.out, HD4.out] at HE
    rw [HD1.out] at hd1
    rw [HD2.out] at hd2
    rw [HD3.out] at hd3
    rw [HD4.out] at hd4
    unfold spT at HE
    have s1 : ¬ 9223372036854775807 < D1.size + 1 := by omega
    have s2 : ¬ 9223372036854775807 < D1.size + 1 + D2.size := by omega
    have s3 : ¬ 9223372036854775807 < D1.size + 1 + D2.size + 1 := by omega
    have s4 : ¬ 9223372036854775807 < D1.size + 1 + D2.size + 1 + D3.size := by omega
    have s5 : ¬ 9223372036854775807 < D1.size + 1 + D2.size + 1 + D3.size + 1 := by omega
    have s6 : ¬ 9223372036854775807 < D1.size + 1 + D2.size + 1 + D3.size + 1 + D4.size := by omega
    have tb : D2.toList.isEmpty = false := by rw [← HD2.out]; exact hpos
    have tc : ¬ D2.toList = [] := fun e => by rw [e] at tb; cases tb
    clear h01
    go_enter Tryd.func13, Tryd.ntmps13
    go_wp2_with fail
    rw [← hW0]
    clear hW0
    refine (c_impl_handWord h _).mono ?_; rintro e w0 ⟨rfl, rfl⟩; rw [HD2.out]
    go_wp2_with fail
    go_region_held3 (fun w' => w'.cell? ⟨w.heap.size, 0, none⟩ = some (.int .i64 p) ∧ w'.cell? ⟨w.heap.size, 1, none⟩ = some (.int .i64 h) ∧ w'.cell? ⟨w.heap.size, 2, none⟩ = some (.int .i64 n) ∧ w'.cell? ⟨w.heap.size, 3, none⟩ = some (.int .i64 d) ∧ w'.cell? ⟨w.heap.size, 4, none⟩ = some (.int .i64 y))
      (go_keep)
      (first
        | ((go_at_call 36; (with_reducible refine (c_decI p D1 HD1 _ hp hTabD).mono ?_); rintro e w1 ⟨rfl, hb1⟩; have hb1 := below_drew hb1; have c0 := keepc hb1 k0; have c1 := keepc hb1 k1; have c2 := keepc hb1 k2; have c3 := keepc hb1 k3; have c4 := keepc hb1 k4; have hT1 := tab_below hTab hb1))
        | ((go_at_call 40; refine (c_impl_FractionText n d _ hn hd hT1).mono ?_; rw [HD3.out]; rintro e w2 ⟨rfl, hb2⟩; have d0 := keepc hb2 c0; have d1 := keepc hb2 c1; have d2 := keepc hb2 c2; have d3 := keepc hb2 c3; have d4 := keepc hb2 c4; have hT2 := tab_below hT1 hb2))
        | ((go_at_call 36; (with_reducible refine (c_decI y D4 HD4 _ hy hT2).mono ?_); rintro e w3 ⟨rfl, hb3⟩; have e0 := keepc hb3 d0; have e1 := keepc hb3 d1; have e2 := keepc hb3 d2; have e3 := keepc hb3 d3; have e4 := keepc hb3 d4)))
    go_wp2
    go_ret
    exact ⟨by rw [HE.out]; rfl, ((B0.tr hb1).tr hb2).tr hb3⟩
  · have HE := dot_no (p := p) (n := n) (d := d) (y := y) h01
    have HH := hand_no h01
    clear h01
    go_enter Tryd.func13, Tryd.ntmps13
    go_wp2_with fail
    rw [← hW0]
    clear hW0
    refine (c_impl_handWord h _).mono ?_; rintro e w0 ⟨rfl, rfl⟩; rw [HH.out]
    go_wp2
    go_ret
    exact ⟨by rw [HE.out]; rfl, B0⟩
set_option maxHeartbeats 4000000 in
set_option maxRecDepth 100000 in
theorem c_spec_l26Dot (p h n d y : Int) (g o : Nat) (w : World) (hp : inI p) (hn : inI n) (hd : inI d) (hy : inI y) (h01 : h = -1 ∨ h = 0 ∨ h = 1)
    (k0 : w.cell? ⟨g, o, none⟩ = some (.int .i64 p)) (k1 : w.cell? ⟨g, o + 1, none⟩ = some (.int .i64 h)) (k2 : w.cell? ⟨g, o + 2, none⟩ = some (.int .i64 n)) (k3 : w.cell? ⟨g, o + 3, none⟩ = some (.int .i64 d)) (k4 : w.cell? ⟨g, o + 4, none⟩ = some (.int .i64 y)) :
    Calls Tryd.prog 38 #[.pointer (some ⟨g, o, none⟩)] w fun e w' => e = .returned (.string (dotT (p, h, n, d, y))) ∧ Below w.heap.size w w' := by
  have HE := dot_yes (p := p) (n := n) (d := d) (y := y) h01
  have hd1 := decT_size hp
  have hd2 := handT_size h
  have hd3 := frT_size hn hd
  have hd4 := decT_size hy
  obtain ⟨D1, HD1⟩ : ∃ D, Hid (decT p = D) := ⟨_, Lib.hid rfl⟩
  obtain ⟨D2, HD2⟩ : ∃ D, Hid (handT h = D) := ⟨_, Lib.hid rfl⟩
  obtain ⟨D3, HD3⟩ : ∃ D, Hid (frT n d = D) := ⟨_, Lib.hid rfl⟩
  obtain ⟨D4, HD4⟩ : ∃ D, Hid (decT y = D) := ⟨_, Lib.hid rfl⟩
  rw [HD1.out, HD2.out, HD3.out, HD4.out] at HE
  rw [HD1.out] at hd1
  rw [HD2.out] at hd2
  rw [HD3.out] at hd3
  rw [HD4.out] at hd4
  unfold spT at HE
  have s1 : ¬ 9223372036854775807 < D1.size + 1 := by omega
  have s2 : ¬ 9223372036854775807 < D1.size + 1 + D2.size := by omega
  have s3 : ¬ 9223372036854775807 < D1.size + 1 + D2.size + 1 := by omega
  have s4 : ¬ 9223372036854775807 < D1.size + 1 + D2.size + 1 + D3.size := by omega
  have s5 : ¬ 9223372036854775807 < D1.size + 1 + D2.size + 1 + D3.size + 1 := by omega
  have s6 : ¬ 9223372036854775807 < D1.size + 1 + D2.size + 1 + D3.size + 1 + D4.size := by omega
  clear h01
  go_enter Tryd.func38, Tryd.ntmps38
  go_wp2_with fail
  go_region_held3 (fun w' => w'.cell? ⟨g, o, none⟩ = some (.int .i64 p) ∧ w'.cell? ⟨g, o + 1, none⟩ = some (.int .i64 h) ∧ w'.cell? ⟨g, o + 2, none⟩ = some (.int .i64 n) ∧ w'.cell? ⟨g, o + 3, none⟩ = some (.int .i64 d) ∧ w'.cell? ⟨g, o + 4, none⟩ = some (.int .i64 y))
    (go_keep)
    (first
      | ((go_at_call 34; (with_reducible refine (c_decS p D1 HD1 _ hp).mono ?_); rintro e w1 ⟨rfl, hb1⟩; have hb1 := below_drew hb1; have c0 := keepc hb1 k0; have c1 := keepc hb1 k1; have c2 := keepc hb1 k2; have c3 := keepc hb1 k3; have c4 := keepc hb1 k4))
      | ((go_at_call 35; refine (c_spec_l26Hand _ _).mono ?_; rintro e w0 ⟨rfl, rfl⟩; rw [HD2.out]))
      | ((go_at_call 62; refine (c_spec_FractionText n d _ hn hd).mono ?_; rw [HD3.out]; rintro e w2 ⟨rfl, hb2⟩; have d0 := keepc hb2 c0; have d1 := keepc hb2 c1; have d2 := keepc hb2 c2; have d3 := keepc hb2 c3; have d4 := keepc hb2 c4))
      | ((go_at_call 34; (with_reducible refine (c_decS y D4 HD4 _ hy).mono ?_); rintro e w3 ⟨rfl, hb3⟩; have e0 := keepc hb3 d0; have e1 := keepc hb3 d1; have e2 := keepc hb3 d2; have e3 := keepc hb3 d3; have e4 := keepc hb3 d4)))
  go_wp2
  go_ret
  exact ⟨by rw [HE.out]; rfl, (hb1.tr hb2).tr hb3⟩
set_option maxHeartbeats 2000000 in
theorem c_spec_DotText (p h n d y : Int) (w : World) (hp : inI p) (hn : inI n) (hd : inI d) (hy : inI y) :
    Calls Tryd.prog 11 #[.agg #[.int .i64 p, .int .i64 h, .int .i64 n, .int .i64 d, .int .i64 y]] w fun e w' => e = .returned (.string (dotT (p, h, n, d, y))) ∧ Below w.heap.size w w' := by
  obtain ⟨W0, hW0, k0, k1, k2, k3, k4, B0⟩ := boxDot w p h n d y
  by_cases h01 : h = -1 ∨ h = 0 ∨ h = 1
  · have hpos := hand_yes h01
    have H01 := Lib.hid h01
    obtain ⟨D2, HD2⟩ : ∃ D, Hid (handT h = D) := ⟨_, Lib.hid rfl⟩
    have tb : D2.toList.isEmpty = false := by rw [← HD2.out]; exact hpos
    have tc : ¬ D2.toList = [] := fun e => by rw [e] at tb; cases tb
    clear h01
    go_enter Tryd.func11, Tryd.ntmps11
    go_wp2_with fail
    rw [← hW0]
    clear hW0
    refine (c_spec_l26Hand h _).mono ?_; rintro e w0 ⟨rfl, rfl⟩; rw [HD2.out]
    go_wp2_with fail
    refine (c_spec_l26Dot p h n d y _ _ _ hp hn hd hy H01.out k0 k1 k2 k3 k4).mono ?_; rintro e w1 ⟨rfl, hb1⟩
    go_wp2
    go_ret
    exact ⟨rfl, B0.tr hb1⟩
  · have HE := dot_no (p := p) (n := n) (d := d) (y := y) h01
    have HH := hand_no h01
    clear h01
    go_enter Tryd.func11, Tryd.ntmps11
    go_wp2_with fail
    rw [← hW0]
    clear hW0
    refine (c_spec_l26Hand h _).mono ?_; rintro e w0 ⟨rfl, rfl⟩; rw [HH.out]
    go_wp2
    go_ret
    exact ⟨by rw [HE.out]; rfl, B0⟩
end Go.Proofs.YtddfdppoclnpcaaDoor
