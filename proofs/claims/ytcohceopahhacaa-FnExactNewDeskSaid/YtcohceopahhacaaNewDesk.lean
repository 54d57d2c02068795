/- The law FnExactNewDesk returns true. No condition. -/
import Derived.Test.YtcohceopahhacaaDesk
namespace Go.Proofs.Ytcohceopahhacaa.fnExactNewDesk
open Go.ChangeShapes Go.WideShapes Go.ChangeAt Go.RowKit
set_option linter.unusedVariables false
theorem own1 {B g : Nat} {w : World} {n : Int} (hg : g = w.heap.size) (hB : B ≤ g) : OwnI1 B (w.alloc (.cells #[.int .i64 n] 2)) (.slice (some ⟨g, 0, none⟩) 1 1) [n] := by
  subst hg
  have h := World.ownsRow_lit (e := 2) (size := 1) w #[.int .i64 n] 1 hB (by decide) rfl
  exact h
theorem c_impl_NewDesk (w : World) : Calls Try.prog 18 #[] w fun e w' => ∃ g, e = .returned (.agg #[.slice (some ⟨g, 0, none⟩) 1 1, .int .i64 4, .int .i64 2, .int .i64 5]) ∧ OwnI1 w.heap.size w' (.slice (some ⟨g, 0, none⟩) 1 1) [3] ∧ Below w.heap.size w w' := by
  go_enter Try.func18, Try.ntmps18
  go_wp2
  refine bodyPost_ret (v := .agg #[.slice (some ⟨w.heap.size + 1, 0, none⟩) 1 1, .int .i64 4, .int .i64 2, .int .i64 5]) (by simp [results, Try.results18, go_sem]) rfl ⟨_, rfl, own1 (by simp) (by omega), ?_⟩
  (repeat (first | (with_reducible assumption) | (with_reducible exact Below.refl _ _) | (with_reducible refine Below.setCell ?_ (by first | (simp; done) | (simp; omega)) _) | (with_reducible refine Below.al ?_ _) | (with_reducible refine Below.dr ?_) | (with_reducible refine Below.drN ?_ _) | (with_reducible refine Below.tr ?_ (by with_reducible assumption))))
theorem c_spec_l28New (w : World) : Calls Try.prog 43 #[] w fun e w' => ∃ g, e = .returned (.agg #[.slice (some ⟨g, 0, none⟩) 1 1, .int .i64 4, .int .i64 2, .int .i64 5]) ∧ OwnI1 w.heap.size w' (.slice (some ⟨g, 0, none⟩) 1 1) [3] ∧ Below w.heap.size w w' := by
  go_enter Try.func43, Try.ntmps43
  go_wp2
  refine bodyPost_ret (v := .agg #[.slice (some ⟨w.heap.size + 1, 0, none⟩) 1 1, .int .i64 4, .int .i64 2, .int .i64 5]) (by simp [results, Try.results43, go_sem]) rfl ⟨_, rfl, own1 (by simp) (by omega), ?_⟩
  (repeat (first | (with_reducible assumption) | (with_reducible exact Below.refl _ _) | (with_reducible refine Below.setCell ?_ (by first | (simp; done) | (simp; omega)) _) | (with_reducible refine Below.al ?_ _) | (with_reducible refine Below.dr ?_) | (with_reducible refine Below.drN ?_ _) | (with_reducible refine Below.tr ?_ (by with_reducible assumption))))
theorem c_spec_NewDesk (w : World) : Calls Try.prog 17 #[] w fun e w' => ∃ g, e = .returned (.agg #[.slice (some ⟨g, 0, none⟩) 1 1, .int .i64 4, .int .i64 2, .int .i64 5]) ∧ OwnI1 w.heap.size w' (.slice (some ⟨g, 0, none⟩) 1 1) [3] ∧ Below w.heap.size w w' := by
  go_enter Try.func17, Try.ntmps17
  go_wp2_with fail
  refine (c_spec_l28New _).mono ?_; rintro e w1 ⟨g, rfl, hown, hb1⟩; obtain ⟨hc1, hf1⟩ := bcell hb1; have hz1_0 : w.heap.size < w1.heap.size := Nat.lt_of_lt_of_le (by first | omega | (simp; done) | (simp; omega)) hb1.size
  go_wp2
  refine bodyPost_ret (v := .agg #[.slice (some ⟨g, 0, none⟩) 1 1, .int .i64 4, .int .i64 2, .int .i64 5]) (by simp [results, Try.results17, go_sem, hc1]) rfl ⟨_, rfl, ?_, ?_⟩
  · refine OwnI.base (B := w.heap.size + 1) ?_ (by omega)
    have hown' : OwnI 2 (w.heap.size + 1) w1 (.slice (some ⟨g, 0, none⟩) 1 1) [3] := by simpa using hown
    (repeat (first | (with_reducible assumption) | (with_reducible refine OwnI.setBelow ?_ (by first | (simp; done) | (simp; omega)) _) | (with_reducible refine OwnI.al ?_ _) | (with_reducible refine OwnI.dr ?_) | (with_reducible refine OwnI.drN ?_ _) | (with_reducible refine OwnI.below ?_ (by with_reducible assumption))))
  · (repeat (first | (with_reducible assumption) | (with_reducible exact Below.refl _ _) | (with_reducible refine Below.setCell ?_ (by first | (simp; done) | (simp; omega)) _) | (with_reducible refine Below.al ?_ _) | (with_reducible refine Below.dr ?_) | (with_reducible refine Below.drN ?_ _) | (with_reducible refine Below.tr ?_ (by with_reducible assumption))))
theorem c_laws_markDesk (lo hi : Nat) (xs : List Int) (q b d wd : Int) (v : Value) (w : World) (h : OwnIR 2 lo hi w v xs) (hq : 0 ≤ q) (hq2 : q + xs.length < 4611686018427387904) :
    Calls Try.prog 20 #[.agg #[v, .int .i64 b, .int .i64 d, .int .i64 wd], .int .i64 q] w fun e w' => e = .returned (.int .i64 (q + xs.length)) ∧ OwnIR 2 lo hi w' v (marks q xs.length) ∧ Upd lo hi w w' := by
  rcases h.1.shape with ⟨hv, hx⟩ | ⟨g, cap, hv, hBg, hgs, _⟩
  · subst hv
    subst hx
    go_enter Try.func20, Try.ntmps20
    go_wp2_with fail
    refine (c_laws_markInt64S lo [] q _ _ (h.al _).1 hq hq2).mono ?_; rintro e w1 ⟨rfl, hown, hg1⟩
    have hU : Upd lo hi w w1 := (Upd.of_below ((Below.refl _ _).al _)).trans ((h.al _).upd_of hg1)
    go_wp2
    go_ret
    exact ⟨by simp, ⟨hown, h.2⟩, hU⟩
  · subst hv
    go_enter Try.func20, Try.ntmps20
    go_wp2_with fail
    refine (c_laws_markInt64S lo xs q _ _ (h.al _).1 hq hq2).mono ?_; rintro e w1 ⟨rfl, hown, hg1⟩
    have hU : Upd lo hi w w1 := (Upd.of_below ((Below.refl _ _).al _)).trans ((h.al _).upd_of hg1)
    go_wp2
    go_ret
    exact ⟨rfl, ⟨hown, h.2⟩, hU⟩
theorem c_laws_heldDesk (n : Nat) (q b d wd : Int) (v : Value) (w : World) (h : RdI w v (marks q n)) (hq : 0 ≤ q) (hq2 : q + n < 4611686018427387904) :
    Calls Try.prog 21 #[.agg #[v, .int .i64 b, .int .i64 d, .int .i64 wd], .int .i64 q] w fun e w' => e = .returned (.int .i64 (q + n)) ∧ Below w.heap.size w w' := by
  have h' := h
  obtain ⟨a1, cap1, rfl, _, _⟩ := h'
  simp only [marks_length] at h ⊢
  have ht : ¬ (q + n < 0) := by omega
  go_enter Try.func21, Try.ntmps21
  go_wp2_with fail
  refine (c_laws_heldInt64S n q _ _ (h.below ((Below.refl _ _).al _)) hq hq2).mono ?_; rintro e w1 ⟨rfl, rfl⟩
  go_wp2
  go_ret
  exact ⟨rfl, by (repeat (first | (with_reducible assumption) | (with_reducible exact Below.refl _ _) | (with_reducible refine Below.setCell ?_ (by first | (simp; done) | (simp; omega)) _) | (with_reducible refine Below.al ?_ _) | (with_reducible refine Below.dr ?_) | (with_reducible refine Below.drN ?_ _) | (with_reducible refine Below.tr ?_ (by with_reducible assumption))))⟩
set_option maxHeartbeats 2000000 in
theorem walk (w : World) : Calls Try.prog 5 #[] w fun e w' => e = .returned (.bool true) ∧ Below w.heap.size w w' := by
  go_enter Try.func5, Try.ntmps5
  go_wp2_with fail
  refine (c_spec_NewDesk _).mono ?_; rintro e w1 ⟨g1, rfl, ho1, hb1⟩; obtain ⟨hc1, hf1⟩ := bcell hb1
  go_wp2_with fail
  refine (c_impl_NewDesk _).mono ?_; rintro e w2 ⟨g2, rfl, ho2, hb2⟩; obtain ⟨hc2, hf2⟩ := bcell hb2
  have hs2 : w1.heap.size < w2.heap.size := Nat.lt_of_lt_of_le (by simp) hb2.size
  have hr1 : RdI w2 (.slice (some ⟨g1, 0, none⟩) 1 1) [3] := ((ho1.al _).below hb2).rd
  have B2 : Below w.heap.size w w2 := by (repeat (first | (with_reducible assumption) | (with_reducible exact Below.refl _ _) | (with_reducible refine Below.setCell ?_ (by first | (simp; done) | (simp; omega)) _) | (with_reducible refine Below.al ?_ _) | (with_reducible refine Below.dr ?_) | (with_reducible refine Below.drN ?_ _) | (with_reducible refine Below.tr ?_ (by with_reducible assumption))))
  go_wp2_with fail
  refine (c_laws_eqDesk [3] 4 2 5 _ _ _ (ho2.al _).rd (hr1.below ((Below.refl _ _).al _))).mono ?_; rintro e w3 ⟨rfl, hb3⟩; obtain ⟨hc3, hf3⟩ := bcell hb3
  have hs3 : w2.heap.size < w3.heap.size := Nat.lt_of_lt_of_le (by simp) hb3.size
  go_wp2_with fail
  have ho2' : OwnIR 2 (w1.heap.size + 1) w2.heap.size w3 (.slice (some ⟨g2, 0, none⟩) 1 1) [3] := by
    have h := (ho2.ir.al (.cells #[.slice (some ⟨g2, 0, none⟩) 1 1, .int .i64 4, .int .i64 2, .int .i64 5] 33)).below hb3
    simpa using h
  have hr1' : OwnIR 2 w.heap.size w1.heap.size w3 (.slice (some ⟨g1, 0, none⟩) 1 1) [3] := (((ho1.ir.al _).below hb2).al _).below hb3
  refine (c_laws_markDesk _ _ [3] 1 4 2 5 _ _ ho2' (by decide) (by decide)).mono ?_; rintro e w4 ⟨rfl, ho4, hu4⟩
  have hr4 := hr1'.upd hu4 (Or.inl (by omega))
  have hc4 : ∀ b o, b < w1.heap.size + 1 ∨ w2.heap.size ≤ b → b < w3.heap.size → w4.cell? ⟨b, o, none⟩ = w3.cell? ⟨b, o, none⟩ := hu4.cell
  have e1 : marks 1 ([3] : List Int).length = marks 1 1 := rfl
  rw [e1] at ho4
  have k0 : w4.cell? ⟨w2.heap.size, 0, none⟩ = some (.slice (some ⟨g2, 0, none⟩) 1 1) := by rw [hc4 _ _ (Or.inr (Nat.le_refl _)) hs3]; go_simp
  have k1 : w4.cell? ⟨w2.heap.size, 1, none⟩ = some (.int .i64 4) := by rw [hc4 _ _ (Or.inr (Nat.le_refl _)) hs3]; go_simp
  have k2 : w4.cell? ⟨w2.heap.size, 2, none⟩ = some (.int .i64 2) := by rw [hc4 _ _ (Or.inr (Nat.le_refl _)) hs3]; go_simp
  have k3 : w4.cell? ⟨w2.heap.size, 3, none⟩ = some (.int .i64 5) := by rw [hc4 _ _ (Or.inr (Nat.le_refl _)) hs3]; go_simp
  have j0 : w4.cell? ⟨w1.heap.size, 0, none⟩ = some (.slice (some ⟨g1, 0, none⟩) 1 1) := by rw [hc4 _ _ (Or.inl (by omega)) (by omega)]; go_simp
  have j1 : w4.cell? ⟨w1.heap.size, 1, none⟩ = some (.int .i64 4) := by rw [hc4 _ _ (Or.inl (by omega)) (by omega)]; go_simp
  have j2 : w4.cell? ⟨w1.heap.size, 2, none⟩ = some (.int .i64 2) := by rw [hc4 _ _ (Or.inl (by omega)) (by omega)]; go_simp
  have j3 : w4.cell? ⟨w1.heap.size, 3, none⟩ = some (.int .i64 5) := by rw [hc4 _ _ (Or.inl (by omega)) (by omega)]; go_simp
  have hs4 : w3.heap.size ≤ w4.heap.size := hu4.size
  have B4 : Below w.heap.size w w4 := by
    have h3 : Below w.heap.size w w3 := by (repeat (first | (with_reducible assumption) | (with_reducible exact Below.refl _ _) | (with_reducible refine Below.setCell ?_ (by first | (simp; done) | (simp; omega)) _) | (with_reducible refine Below.al ?_ _) | (with_reducible refine Below.dr ?_) | (with_reducible refine Below.drN ?_ _) | (with_reducible refine Below.tr ?_ (by with_reducible assumption))))
    exact h3.trans (hu4.below (by have := hb1.size; omega) (by have := hb1.size; omega))
  have z1 : w1.heap.size < w4.heap.size := by omega
  have z2 : w2.heap.size < w4.heap.size := by omega
  clear hc1 hf1 hc2 hf2 hc3 hf3 hc4 hr1 hb2 hb3 hb1
  go_wp2_with fail
  refine (c_laws_heldDesk 1 1 4 2 5 _ _ ho4.rd (by decide) (by decide)).mono ?_; rintro e w5 ⟨rfl, hb5⟩; obtain ⟨hc5, hf5⟩ := bcell hb5
  have z15 : w1.heap.size < w5.heap.size := by have := hb5.size; omega
  have z25 : w2.heap.size < w5.heap.size := by have := hb5.size; omega
  go_wp2_with fail
  refine (c_impl_NewDesk _).mono ?_; rintro e w6 ⟨g6, rfl, ho6, hb6⟩; obtain ⟨hc6, hf6⟩ := bcell hb6
  have z16 : w1.heap.size < w6.heap.size := by have := hb6.size; omega
  have z26 : w2.heap.size < w6.heap.size := by have := hb6.size; omega
  go_wp2_with fail
  refine (c_laws_eqDesk [3] 4 2 5 _ _ _ (ho6.al _).rd (((hr4.below hb5).below hb6).al _).rd).mono ?_; rintro e w7 ⟨rfl, hb7⟩; obtain ⟨hc7, hf7⟩ := bcell hb7
  have z17 : w1.heap.size < w7.heap.size := by (have := hb7.size; simp only [World.size_alloc] at this; omega)
  have z27 : w2.heap.size < w7.heap.size := by (have := hb7.size; simp only [World.size_alloc] at this; omega)
  go_wp2_with fail
  refine (c_laws_heldDesk 1 1 4 2 5 _ _ ((((ho4.below hb5).below hb6).al _).below hb7).rd (by decide) (by decide)).mono ?_; rintro e w8 ⟨rfl, hb8⟩; obtain ⟨hc8, hf8⟩ := bcell hb8
  go_wp2
  go_ret
  exact ⟨rfl, by (repeat (first | (with_reducible assumption) | (with_reducible exact Below.refl _ _) | (with_reducible refine Below.setCell ?_ (by first | (simp; done) | (simp; omega)) _) | (with_reducible refine Below.al ?_ _) | (with_reducible refine Below.dr ?_) | (with_reducible refine Below.drN ?_ _) | (with_reducible refine Below.tr ?_ (by with_reducible assumption))))⟩
theorem own : ownKnob Try.prog.godebug = none := by kernel_rfl
theorem laidOut : laidOutB Try.prog = true := by kernel_rfl
set_option maxRecDepth 100000 in
theorem lifted (os : Os) (started : os.Started) (H : Type) (enc : TypeId × Value → H) :
    ReturnsInHanded {} Try.checked os 5 .any (Rows.fnExactNewDeskSpec.pre6 enc Try.prog Try.f5 Rows.fnExactNewDeskRow.domain false) (Rows.fnExactNewDeskSpec.post enc Try.prog Try.f5 false true false false) := by
  refine returnsInHanded_of_change (C := Try.checked) own started (by kernel_rfl) Try.func5
    (ChangeSpec.witness6 (enc := enc) (C := Try.checked) false ⟨#[], #[], []⟩ 8 (by kernel_rfl) (by kernel_rfl) (by kernel_rfl) (by kernel_rfl)) ?_
  intro W base args ds gs before hval0 hW hcnd _
  have hval : ∀ (j : Nat) t v, Try.f5.params[j]? = some t → args[j]? = some v → Value.okWide Try.prog W .any base t v := hval0
  have hW' := hW
  obtain ⟨p, q, hA0, hV, rfl, hfz, hnd⟩ := hW
  have hA : DataW.TrodAll enc Try.prog W 0 (fun _ => true) true Try.f5.params.toList args.toList ds p := hA0
  rw [Try.params5] at hA hval
  obtain ⟨hargs, rfl, rfl⟩ := trodAll_nil hA
  obtain rfl : args = #[] := by cases args; simp_all
  obtain ⟨rfl, rfl⟩ := trodVars_none hV
  clear hA0 hval0
  refine (walk  W ).mono fun e W' ⟨he, bel⟩ => ?_
  subst he
  exact ⟨_, rfl, _, _, _, [], _, [], hW', trodAll_mk1 (shut_bool Try.underlying4 _), trodAll_mk0, rfl, bel.frame _, fun h => by cases h⟩
theorem over : Rows.fnExactNewDeskRow.holds Try.pinned (OpenSpec.ofChange Rows.fnExactNewDeskSpec) :=
  OpenClaim.holds_of_wide 5 Try.f5 rfl rfl rfl rfl rfl rfl rfl ⟨rfl, rfl, rfl, rfl, rfl⟩ rfl rfl rfl rfl rfl (by kernel_rfl) Try.func5 (by kernel_rfl)
    (of_decide_eq_true (by kernel_rfl)) (by unfold Func.isWrapper; first | (rw [if_pos (by decide +kernel)]; kernel_rfl) | (rw [if_neg (by decide +kernel)]; exact ⟨rfl, rfl⟩))
    (fun os started H enc _ => lifted os started H enc)
theorem proved : Rows.FnExactNewDeskSaid := over
end Go.Proofs.Ytcohceopahhacaa.fnExactNewDesk
