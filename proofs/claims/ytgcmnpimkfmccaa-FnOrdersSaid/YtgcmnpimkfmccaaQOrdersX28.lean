/- The law OrdersX: what it rests on, part 28 of 48. -/
import Derived.WalkSpells
import Derived.Test.YtgcmnpimkfmccaaQOrdersX27
namespace Go.Proofs.Ytgcmnpimkfmccaa
open Go.ChangeShapes Go.WideShapes Go.ChangeAt Go.RowKit
set_option linter.unusedSimpArgs false
set_option linter.unusedVariables false
abbrev SrchI (lo bo bu n : Nat) (D : Nat → Prop) := SrchAt 2 lo bo 3 4 bu n D 0
set_option maxRecDepth 100000 in
/-- the search stops where it cannot be better -/
theorem c_impl_step_cut (lo bo bu n : Nat) (D : Nat → Prop) (w0 : World) (vc vf vl : Value) (F : Far) (d : Nat) (O : List Int) (s : Int) (vo vb : Value) (b : Option (List Int × Int)) (w : World)
    (h : SrchI lo bo bu n D w0 vc vf vl w vo O vb b) (hF : RdFar D n w0 vc vf vl F) (hB : BdF F n) (hb : NnO b) (hcut : cutO b s = true) :
    Calls Try.prog 37 #[.pointer (some ⟨bo, 0, none⟩), .int .i64 s] w fun e w' => e = .returned (.tuple #[]) ∧ ∃ vo' vb', SrchI lo bo bu n D w0 vc vf vl w' vo' O vb' (walkO F d O s b) := by
  cases b with
  | none => cases hcut
  | some p =>
    have h2 : p.2 ≤ s := by simpa [cutO] using hcut
    obtain ⟨ao, cap, hvo, -, -⟩ := h.m.ow.rd
    subst hvo
    obtain ⟨ab, nb, cb, hvb⟩ := h.bs p rfl
    subst hvb
    have co := h.m.co
    have c5 := h.m.c5
    have c6 : w.cell? ⟨bo, 6, none⟩ = some (.int .i64 p.2) := h.m.c6
    have HH := Lib.hid h
    have HW := Lib.hid (walkO_cut F d O s (some p) hcut)
    generalize p.2 = L at *
    clear h hF hcut hb
    go_enter Try.func37, Try.ntmps37
    go_wp2
    exact bodyPost_ret (v := .tuple #[]) (by simp [results, Try.results37, go_sem]) rfl ⟨rfl, _, _, by rw [HW.out]; exact HH.out⟩
set_option maxHeartbeats 4000000 in
set_option maxRecDepth 100000 in
/-- the search at a whole order -/
theorem c_impl_step_leaf (lo bo bu n : Nat) (D : Nat → Prop) (w0 : World) (vc vf vl : Value) (F : Far) (O : List Int) (s : Int) (vo vb : Value) (b : Option (List Int × Int)) (w : World)
    (h : SrchI lo bo bu n D w0 vc vf vl w vo O vb b) (hF : RdFar D n w0 vc vf vl F) (hB : BdF F n) (hO : PathO n O) (hl : O.length = n) (hs : 0 ≤ s ∧ s ≤ 1000000 * (O.length : Int)) (hb : NnO b) (hcut : cutO b s = false) :
    Calls Try.prog 37 #[.pointer (some ⟨bo, 0, none⟩), .int .i64 s] w fun e w' => e = .returned (.tuple #[]) ∧ ∃ vo' vb', SrchI lo bo bu n D w0 vc vf vl w' vo' O vb' (walkO F 0 O s b) := by
  have hn := hB.hn
  have hne : O ≠ [] := fun e => by rw [e] at hl; simp at hl; omega
  obtain ⟨e1, e2⟩ := lastI_at hO hne
  have hL := hB.hl (lastI O)
  have hR := hF.upd h.m.up
  obtain ⟨b0, o0, cp0, rfl, -⟩ := hR.cc
  obtain ⟨bl, ol, cl, rfl, dl, xl⟩ := hR.ll
  have xl := xl (lastI O) e2
  have HW := Lib.hid (walkO_zero F O s b hcut)
  obtain ⟨q, Hq⟩ : ∃ q, Hid (lastI O = q) := ⟨_, rfl⟩
  rw [Hq.out] at e1 e2 hL xl HW
  obtain ⟨L, HL⟩ : ∃ L, Hid (F.last.getD q 0 = L) := ⟨_, rfl⟩
  rw [HL.out] at hL xl HW
  rcases h.m.ow.shape with ⟨-, hnil⟩ | ⟨g, cap, rfl, hg1, hg2, hcap, hml, hcr, hfr⟩
  · exact absurd hnil hne
  have xo := hcr (O.length - 1) (by omega)
  rw [e1] at xo
  have hrd := Lib.hid h.m.ow.rd
  have c0 := h.m.c0
  have hll2 : O.length ≤ 9 := by omega
  have c2 := h.m.c2
  have co := h.m.co
  have c6 := h.m.c6
  have c5 := h.m.c5
  have f5 := h.m.f5
  have f6 := h.m.f6
  have HH := Lib.hid h
  rw [hl] at co xo hcap hcr
  have hs2 : s ≤ 8000000 := by omega
  have hs0 := hs.1
  have hL0 := hL.1
  have hL1 := hL.2
  have hn1 := hn.1
  have hn2 := hn.2
  have hq0 : (0 : Int) ≤ (q : Int) := by omega
  have hq1 : (q : Int) < (n : Int) := by omega
  have hm1 : (n : Int) - 1 = ((n - 1 : Nat) : Int) := by omega
  have HM1 := Lib.hid hm1
  have hin0 : (0 : Int) ≤ ((n - 1 : Nat) : Int) := by omega
  have hin1 : ((n - 1 : Nat) : Int) < (n : Int) := by omega
  have hll : O.length ≤ 1000000 := by omega
  have HLN := Lib.hid hl
  clear hF hR hb hs hL hO hne e1 e2 hl hn hm1
  have hnilq := fun (w : World) (a : Option Addr) (n c n1 c1 : Nat) => Lib.run_eql_slice_nil (P := Try.prog) w 28 2 a n c n1 c1 Try.underlying28
  cases b with
  | none =>
    clear hcut
    replace c6 : w.cell? ⟨bo, 6, none⟩ = some (.int .i64 0) := c6
    have hvb := h.bn rfl
    subst hvb
    clear h
    go_enter Try.func37, Try.ntmps37
    go_wp2_with fail
    go_quiet (fail)
    go_wp2_with fail
    have M2 := HH.out.m.below ((Below.refl _ _).drN nq)
    have H2 := Lib.hid M2
    clear M2
    refine (c_impl_copyNumbers O _ _ (by rw [← HLN.out]; exact H2.out.ow.rd) hll).mono ?_; rintro e w3 ⟨u, rfl, hou, hb3⟩
    rcases hou.shape with ⟨-, hnil⟩ | ⟨ub, uc, rfl, -⟩
    · exact absurd (by rw [hnil] at HLN; have := HLN.out; simp at this; omega) id
    have M3 := H2.out.newBest hou hb3
    have c5' := M3.c5
    have f5' := M3.f5
    have c6' := M3.c6
    have f6' := M3.f6
    have H4 := Lib.hid ((M3.put5 (by decide) (by decide) (.slice (some ⟨ub, 0, none⟩) O.length uc)).put6 (by decide) (by decide) (.int .i64 (s + L)))
    clear M3
    go_wp2_with fail
    exact bodyPost_ret (v := .tuple #[]) (by simp [results, Try.results37, go_sem]) rfl ⟨rfl, _, _, by rw [HW.out]; exact ⟨H4.out, (fun e => by cases e), fun _ _ => ⟨_, _, _, rfl⟩⟩⟩
  | some p =>
    have hp : s < p.2 := by simpa [cutO] using hcut
    replace c6 : w.cell? ⟨bo, 6, none⟩ = some (.int .i64 p.2) := c6
    obtain ⟨ab, nb, cb, hvb⟩ := h.bs p rfl
    subst hvb
    have HU : Hid (walkO F 0 O s (some p) = if s + L < p.2 then some (O, s + L) else some p) := HW.out
    clear hcut h
    obtain ⟨P, HP⟩ : ∃ P, Hid (p.2 = P) := ⟨_, rfl⟩
    rw [HP.out] at c6 hp HU
    by_cases hlt : s + L < P
    · have HU2 : Hid (walkO F 0 O s (some p) = some (O, s + L)) := by have := HU.out; rw [if_pos hlt] at this; exact this
      go_enter Try.func37, Try.ntmps37
      go_wp2_with fail
      go_quiet (fail)
      go_wp2_with fail
      have M2 := HH.out.m.below ((Below.refl _ _).drN nq)
      have H2 := Lib.hid M2
      clear M2
      refine (c_impl_copyNumbers O _ _ (by rw [← HLN.out]; exact H2.out.ow.rd) hll).mono ?_; rintro e w3 ⟨u, rfl, hou, hb3⟩
      rcases hou.shape with ⟨-, hnil⟩ | ⟨ub, uc, rfl, -⟩
      · exact absurd (by rw [hnil] at HLN; have := HLN.out; simp at this; omega) id
      have M3 := H2.out.newBest hou hb3
      have c5' := M3.c5
      have f5' := M3.f5
      have c6' := M3.c6
      have f6' := M3.f6
      have H4 := Lib.hid ((M3.put5 (by decide) (by decide) (.slice (some ⟨ub, 0, none⟩) O.length uc)).put6 (by decide) (by decide) (.int .i64 (s + L)))
      clear M3
      go_wp2_with fail
      exact bodyPost_ret (v := .tuple #[]) (by simp [results, Try.results37, go_sem]) rfl ⟨rfl, _, _, by rw [HU2.out]; exact ⟨H4.out, (fun e => by cases e), fun _ _ => ⟨_, _, _, rfl⟩⟩⟩
    · have HU2 : Hid (walkO F 0 O s (some p) = some p) := by have := HU.out; rw [if_neg hlt] at this; exact this
      go_enter Try.func37, Try.ntmps37
      go_wp2_with fail
      go_quiet (fail)
      go_wp2_with fail
      exact bodyPost_ret (v := .tuple #[]) (by simp [results, Try.results37, go_sem]) rfl ⟨rfl, _, _, by rw [HU2.out]; exact HH.out.below ((Below.refl _ _).drN nq)⟩
set_option maxHeartbeats 8000000 in
set_option maxRecDepth 100000 in
/-- the search goes through all places that may be the next one -/
theorem c_impl_step_node0 (lo bo bu n : Nat) (D : Nat → Prop) (w0 : World) (vc vf vl : Value) (F : Far) (hF : RdFar D n w0 vc vf vl F) (hB : BdF F n) (d : Nat)
    (ih : ∀ (O : List Int) (s : Int) (vo vb : Value) (b : Option (List Int × Int)) (w : World), SrchI lo bo bu n D w0 vc vf vl w vo O vb b → PathO n O → O.length + d = n → (0 ≤ s ∧ s ≤ 1000000 * (O.length : Int)) → NnO b →
      Calls Try.prog 37 #[.pointer (some ⟨bo, 0, none⟩), .int .i64 s] w fun e w' => e = .returned (.tuple #[]) ∧ ∃ vo' vb', SrchI lo bo bu n D w0 vc vf vl w' vo' O vb' (walkO F d O s b))
    (O : List Int) (s : Int) (vo vb : Value) (b : Option (List Int × Int)) (w : World)
    (h : SrchI lo bo bu n D w0 vc vf vl w vo O vb b) (hO : PathO n O) (hl : O.length + (d + 1) = n) (hs : 0 ≤ s ∧ s ≤ 1000000 * (O.length : Int)) (hb : NnO b) (hcut : cutO b s = false) (hP0 : b = none) :
    Calls Try.prog 37 #[.pointer (some ⟨bo, 0, none⟩), .int .i64 s] w fun e w' => e = .returned (.tuple #[]) ∧ ∃ vo' vb', SrchI lo bo bu n D w0 vc vf vl w' vo' O vb' (walkO F (d + 1) O s b) := by
  have hn := hB.hn
  have HW := Lib.hid (walkO_succ F d O s b hcut)
  rw [hB.hf] at HW
  have HFN := Lib.hid (foldO_nn hB hl hs hb)
  have c0 := h.m.c0
  have c6 := h.m.c6
  have hR := hF.upd h.m.up
  obtain ⟨bf, of, cf, evf, -⟩ := hR.cc
  rw [evf] at c0
  obtain ⟨ao, cap, hvo, -, -⟩ := h.m.ow.rd
  have co := h.m.co
  rw [hvo] at co
  have HH := Lib.hid h
  have hln : O.length < n := by omega
  have hl2 : (O ++ [(0 : Int)]).length + d = n := by rw [List.length_append, List.length_singleton]; omega
  have hs0 := hs.1
  have hs1 : s ≤ 7000000 := by omega
  have hn1 := hn.1
  have hn2 := hn.2
  have hlm : O.length ≤ 8 := by omega
  have hdec2 : ((O.length : Int) == (n : Int)) = false := by rw [beq_eq_false_iff_ne]; omega
  have c5 := h.m.c5
  have hbn := h.bn
  have hbs := h.bs
  clear h hR hb hcut hvo evf
  first
    | (have hvb := hbn hP0; rw [hvb] at c5; clear c6)
    | (obtain ⟨p, hp1, hp2⟩ := hP0; obtain ⟨ab, nb, cb, hvb⟩ := hbs p hp1; rw [hvb] at c5; obtain ⟨P, HP⟩ : ∃ P, Hid (lstO 0 b = P) := ⟨_, rfl⟩; rw [HP.out] at c6; have hpe : p.2 = P := (by have h9 := HP.out; simpa [hp1, lstO] using h9); have hdec : decide (P ≤ s) = false := (by rw [decide_eq_false_iff_not]; omega); clear hpe hp2 hp1 hvb)
  clear hbn hbs
  go_enter Try.func37, Try.ntmps37
  go_wp2_with fail
  go_loopw [79] (fun kv wr => ∃ k : Nat, k ≤ n ∧ kv = .int .i64 k ∧ ∃ vo' vb', SrchI lo bo bu n D w0 vc vf vl wr vo' O vb' (foldO F d O s b k)) (fun kv _ => n - (intOf kv).toNat)
  case atStart => exact ⟨0, by omega, rfl, vo, vb, HH.out⟩
  case round =>
    obtain ⟨k, hk, rfl, vo', vb', hS⟩ := hrel
    by_cases hlt : k < n
    · have cu := hS.m.cu
      have us := (hS.m.us k hlt).1
      have hk0 : (0 : Int) ≤ (k : Int) := by omega
      have hk1 : (k : Int) < (n : Int) := by omega
      cases hm : memO O k
      · have hmo : Hid ((k : Int) ∉ O) := by unfold Hid; simpa [memO] using hm
        have HR : Hid (foldO F d O s b (k + 1) = walkO F d (O ++ [(k : Int)]) (s + costO F O k) (foldO F d O s b k)) := by unfold Hid; rw [foldO_succ]; unfold roundO; rw [if_neg hmo.out]
        have hnb := HFN.out k
        obtain ⟨b', Hb'⟩ : ∃ b', Hid (foldO F d O s b k = b') := ⟨_, rfl⟩
        rw [Hb'.out] at hS HR hnb
        rw [hm] at us
        have hC := hB.hc O k
        have HC2 : Hid (costO F O k = if O = [] then F.first.getD k 0 else (F.costs.getD (lastI O) []).getD k 0) := rfl
        obtain ⟨C, HC⟩ : ∃ C, Hid (costO F O k = C) := ⟨_, rfl⟩
        rw [HC.out] at hC HR HC2
        have hC0 := hC.1
        have hC1 := hC.2
        have hl2 : (O ++ [(k : Int)]).length + d = n := by rw [List.length_append, List.length_singleton]; omega
        have hsC : 0 ≤ s + C ∧ s + C ≤ 1000000 * ((O ++ [(k : Int)]).length : Int) := by rw [List.length_append, List.length_singleton]; omega
        have HN := Lib.hid hnb
        have hR := hF.upd hS.m.up
        obtain ⟨bf2, of2, cf2, evf2, df2, xf0⟩ := hR.ff
        have xf := xf0 k hlt
        clear xf0
        have hne1 := hS.m.ne
        have hne2 : bu ≠ bo := fun e => hne1 e.symm
        have c1 := hS.m.c1
        rw [evf2] at c1
        have co := hS.m.co
        by_cases hne : O = []
        · obtain ⟨ao', cap', rfl, -, -⟩ := hS.m.ow.rd
          have hzl : ¬ (0 : Int) < (O.length : Int) := by rw [hne]; simp
          have hx : F.first.getD k 0 = C := by have := HC2.out; rw [if_pos hne] at this; exact this.symm
          rw [hx] at xf
          have HNE := Lib.hid hne
          have HMM := Lib.hid hm
          clear hne hx hR hC hn hm hk0 hk1
          clear hnb
          have hnb := HN.out
          have fu := (hS.m.us k hlt).2
          have fo := hS.m.fo
          have HD := Lib.hid (hS.below (Below.refl _ _))
          have hlo1 : lo ≤ wr.heap.size := by have h1 := hS.m.up.size; have h2 := hS.m.hlo; omega
          have hlo1 : lo ≤ (wr).heap.size := by exact hlo1
          have HS := Lib.hid hS
          have cod : (wr).drew.cell? ⟨bo, 3, none⟩ = some (.slice ao' O.length cap') := co
          have cud : (wr).drew.cell? ⟨bo, 4, none⟩ = some (.slice (some ⟨bu, 0, none⟩) n n) := cu
          have coa : ∀ ob, (wr.alloc ob).drew.cell? ⟨bo, 3, none⟩ = some (.slice ao' O.length cap') := fun ob => cellB (((Below.refl _ _).al _).dr) co
          have cua : ∀ ob, (wr.alloc ob).drew.cell? ⟨bo, 4, none⟩ = some (.slice (some ⟨bu, 0, none⟩) n n) := fun ob => cellB (((Below.refl _ _).al _).dr) cu
          have hk0 : (0 : Int) ≤ (k : Int) := by omega
          have hk1 : (k : Int) < (n : Int) := by omega
          clear hS
          go_wp2_with fail
          
          refine wp_region_noPanic ?_; refine wp_region_L (S := untilL 12 14 (fun w' => w'.cell? ⟨bo, 3, none⟩ = some (.slice ao' O.length cap')) (fun w' => w'.cell? ⟨bo, 4, none⟩ = some (.slice (some ⟨bu, 0, none⟩) n n))) (by kernel_rfl) ?_
          (refine wpAnyL_take (S0 := (fun _ => True)) (i := 0) (q := 1) (v := ?lv1) rfl rfl (by kernel_rfl) (by kernel_rfl) (by kernel_rfl) (by kernel_rfl) (by kernel_rfl) (fun _ _ _ h => h) (fun _ _ _ _ => True.intro) (untilL_set (by decide) (by decide)) (Or.inl ⟨by rfl, ?lhy1⟩) ⟨fun _ => cod, fun _ => cud⟩ ?lrest1; case lhy1 => (intro w hSw; (try dsimp only at hSw); go_simp; (try with_reducible rfl)); (try simp only [Act.put, List.getElem_toArray, List.getElem_cons_zero, List.getElem_cons_succ, List.setIfInBounds_toArray, List.set_cons_zero, List.set_cons_succ])); (refine wpAnyL_take (S0 := (fun _ => True)) (i := 1) (q := 2) (v := ?lv2) rfl rfl (by kernel_rfl) (by kernel_rfl) (by kernel_rfl) (by kernel_rfl) (by kernel_rfl) (fun _ _ _ h => h) (fun _ _ _ _ => True.intro) (untilL_set (by decide) (by decide)) (Or.inl ⟨by rfl, ?lhy2⟩) ⟨fun _ => cod, fun _ => cud⟩ ?lrest2; case lhy2 => (intro w hSw; (try dsimp only at hSw); go_simp; (try with_reducible rfl)); (try simp only [Act.put, List.getElem_toArray, List.getElem_cons_zero, List.getElem_cons_succ, List.setIfInBounds_toArray, List.set_cons_zero, List.set_cons_succ])); (refine wpAnyL_take (S0 := (fun _ => True)) (i := 2) (q := 3) (v := ?lv3) rfl rfl (by kernel_rfl) (by kernel_rfl) (by kernel_rfl) (by kernel_rfl) (by kernel_rfl) (fun _ _ _ h => h) (fun _ _ _ _ => True.intro) (untilL_set (by decide) (by decide)) (Or.inl ⟨by rfl, ?lhy3⟩) ⟨fun _ => cod, fun _ => cud⟩ ?lrest3; case lhy3 => (intro w hSw; (try dsimp only at hSw); go_simp; (try with_reducible rfl)); (try simp only [Act.put, List.getElem_toArray, List.getElem_cons_zero, List.getElem_cons_succ, List.setIfInBounds_toArray, List.set_cons_zero, List.set_cons_succ])); (refine wpAnyL_take (S0 := (fun w' => w'.cell? ⟨bo, 4, none⟩ = some (.slice (some ⟨bu, 0, none⟩) n n))) (i := 3) (q := 14) (v := ?lv4) rfl rfl (by kernel_rfl) (by kernel_rfl) (by kernel_rfl) (by kernel_rfl) (by kernel_rfl) (fun _ _ _ h => h) (fun _ _ hq hS => hS.2 hq) (untilL_set (by decide) (by decide)) (Or.inl ⟨by rfl, ?lhy4⟩) ⟨fun _ => cod, fun _ => cud⟩ ?lrest4; case lhy4 => (intro w hSw; (try dsimp only at hSw); go_simp; (try with_reducible rfl)); (try simp only [Act.put, List.getElem_toArray, List.getElem_cons_zero, List.getElem_cons_succ, List.setIfInBounds_toArray, List.set_cons_zero, List.set_cons_succ])); (refine wpAnyL_take (S0 := (fun _ => True)) (i := 4) (q := 13) (v := ?lv5) rfl rfl (by kernel_rfl) (by kernel_rfl) (by kernel_rfl) (by kernel_rfl) (by kernel_rfl) (fun _ _ _ h => h) (fun _ _ _ _ => True.intro) (untilL_set (by decide) (by decide)) (Or.inl ⟨by rfl, ?lhy5⟩) ⟨fun _ => cod, fun _ => cud⟩ ?lrest5; case lhy5 => (intro w hSw; (try dsimp only at hSw); go_simp; (try with_reducible rfl)); (try simp only [Act.put, List.getElem_toArray, List.getElem_cons_zero, List.getElem_cons_succ, List.setIfInBounds_toArray, List.set_cons_zero, List.set_cons_succ])); (refine wpAnyL_take (S0 := (fun _ => True)) (i := 5) (q := 15) (v := ?lv6) rfl rfl (by kernel_rfl) (by kernel_rfl) (by kernel_rfl) (by kernel_rfl) (by kernel_rfl) (fun _ _ _ h => h) (fun _ _ _ _ => True.intro) (untilL_set (by decide) (by decide)) (Or.inl ⟨by rfl, ?lhy6⟩) ⟨fun _ => cod, fun _ => cud⟩ ?lrest6; case lhy6 => (intro w hSw; (try dsimp only at hSw); go_simp; (try with_reducible rfl)); (try simp only [Act.put, List.getElem_toArray, List.getElem_cons_zero, List.getElem_cons_succ, List.setIfInBounds_toArray, List.set_cons_zero, List.set_cons_succ])); (refine wpAnyL_take (S0 := (fun _ => True)) (i := 6) (q := 7) (v := ?lv7) rfl rfl (by kernel_rfl) (by kernel_rfl) (by kernel_rfl) (by kernel_rfl) (by kernel_rfl) (fun _ _ _ h => h) (fun _ _ _ _ => True.intro) (untilL_set (by decide) (by decide)) (Or.inl ⟨by rfl, ?lhy7⟩) ⟨fun _ => cod, fun _ => cud⟩ ?lrest7; case lhy7 => (intro w hSw; (try dsimp only at hSw); go_simp; (try with_reducible rfl)); (try simp only [Act.put, List.getElem_toArray, List.getElem_cons_zero, List.getElem_cons_succ, List.setIfInBounds_toArray, List.set_cons_zero, List.set_cons_succ])); (refine wpAnyL_take (S0 := (fun _ => True)) (i := 7) (q := 8) (v := ?lv8) rfl rfl (by kernel_rfl) (by kernel_rfl) (by kernel_rfl) (by kernel_rfl) (by kernel_rfl) (fun _ _ _ h => h) (fun _ _ _ _ => True.intro) (untilL_set (by decide) (by decide)) (Or.inl ⟨by rfl, ?lhy8⟩) ⟨fun _ => cod, fun _ => cud⟩ ?lrest8; case lhy8 => (intro w hSw; (try dsimp only at hSw); go_simp; (try with_reducible rfl)); (try simp only [Act.put, List.getElem_toArray, List.getElem_cons_zero, List.getElem_cons_succ, List.setIfInBounds_toArray, List.set_cons_zero, List.set_cons_succ])); (refine wpAnyL_take (S0 := (fun _ => True)) (i := 8) (q := 9) (v := ?lv9) rfl rfl (by kernel_rfl) (by kernel_rfl) (by kernel_rfl) (by kernel_rfl) (by kernel_rfl) (fun _ _ _ h => h) (fun _ _ _ _ => True.intro) (untilL_set (by decide) (by decide)) (Or.inl ⟨by rfl, ?lhy9⟩) ⟨fun _ => cod, fun _ => cud⟩ ?lrest9; case lhy9 => (intro w hSw; (try dsimp only at hSw); go_simp; (try with_reducible rfl)); (try simp only [Act.put, List.getElem_toArray, List.getElem_cons_zero, List.getElem_cons_succ, List.setIfInBounds_toArray, List.set_cons_zero, List.set_cons_succ])); (refine wpAnyL_take (S0 := (fun w' => w'.cell? ⟨bo, 3, none⟩ = some (.slice ao' O.length cap'))) (i := 9) (q := 12) (v := ?lv10) rfl rfl (by kernel_rfl) (by kernel_rfl) (by kernel_rfl) (by kernel_rfl) (by kernel_rfl) (fun _ _ _ h => h) (fun _ _ hq hS => hS.1 hq) (untilL_set (by decide) (by decide)) (Or.inl ⟨by rfl, ?lhy10⟩) ⟨fun _ => cod, fun _ => cud⟩ ?lrest10; case lhy10 => (intro w hSw; (try dsimp only at hSw); go_simp; (try with_reducible rfl)); (try simp only [Act.put, List.getElem_toArray, List.getElem_cons_zero, List.getElem_cons_succ, List.setIfInBounds_toArray, List.set_cons_zero, List.set_cons_succ])); (refine wpAnyL_take (S0 := (fun _ => True)) (i := 10) (q := 11) (v := ?lv11) rfl rfl (by kernel_rfl) (by kernel_rfl) (by kernel_rfl) (by kernel_rfl) (by kernel_rfl) (fun _ _ _ h => h) (fun _ _ _ _ => True.intro) (untilL_set (by decide) (by decide)) (Or.inl ⟨by rfl, ?lhy11⟩) ⟨fun _ => cod, fun _ => cud⟩ ?lrest11; case lhy11 => (intro w hSw; (try dsimp only at hSw); go_simp; (try with_reducible rfl)); (try simp only [Act.put, List.getElem_toArray, List.getElem_cons_zero, List.getElem_cons_succ, List.setIfInBounds_toArray, List.set_cons_zero, List.set_cons_succ]))
          refine wpAnyL_ready (rs := [11]) (by kernel_rfl) (by simp) ?_; refine AllReadyL.cons (i := 11) rfl (fun K hK => ?_) AllReadyL.nil
          go_simp
          refine hK.out _ _ ⟨(fun _ => coa _), (fun _ => cua _)⟩ (fun hHeld => ?_); clear hK K; (try simp only [Act.put, List.getElem_toArray, List.getElem_cons_zero, List.getElem_cons_succ, List.setIfInBounds_toArray, List.set_cons_zero, List.set_cons_succ])
          refine wpAnyL_ready (rs := [12]) (by kernel_rfl) (by simp) ?_; refine AllReadyL.cons (i := 12) rfl (fun K hK => ?_) AllReadyL.nil
          refine step_push_i rfl _ _ _ rfl Try.underlying28 infoI lo _ O (k : Int) (wr).heap.size _ rfl rfl ?_ (by exact (HS.out.m.below (((Below.refl _ _).al _).dr)).ow) (by omega) (by show lo ≤ (wr.alloc _).heap.size; rw [World.size_alloc]; exact Nat.le_succ_of_le hlo1) ?_
          · exact World.cell?_alloc_at _ _ _ _ rfl
          intro v2 w2 ho2 hg2 hat2 hs2
          have M2 := (HS.out.m.below (((Below.refl _ _).al _).dr)).grow ho2 hg2 (by
            rcases hat2 with e | e
            · exact Or.inl e
            · refine Or.inr (fun q hq => ?_)
              rw [e] at hq
              simp only [Option.some.injEq] at hq
              exact Nat.le_of_eq hq)
          rcases ho2.shape with ⟨-, hnil⟩ | ⟨g2, cap2, rfl, -⟩
          · exact absurd hnil (by simp)
          have hlen4 : (O ++ [(k : Int)]).length = O.length + 1 := by simp
          rw [hlen4] at M2
          have HL4 := Lib.hid hlen4
          clear hlen4 hs2 hat2 hg2 ho2 hlo1 coa cua
          have cu2 := M2.cu
          have us2 := (M2.us k hlt).1
          have fu2 := (M2.us k hlt).2
          have co2 := M2.co
          have fo2 := M2.fo
          have M3 := (M2.setUsed k hlt true).putO (by decide) (by decide) (.slice (some ⟨g2, 0, none⟩) (O.length + 1) cap2)
          have H3 : SrchI lo bo bu n D w0 vc vf vl _ _ (O ++ [(k : Int)]) vb' b' := ⟨M3.fun (fun j hj => (memO_snoc O k j).symm), HS.out.bn, HS.out.bs⟩
          have H3 := Lib.hid H3
          clear M2 M3 co cu us fu cod cud
          
          refine hK.out _ _ ⟨(fun h => Bool.noConfusion (show true = false from h)), (fun _ => cu2)⟩ (fun hHeld => ?_); clear hK K; (try simp only [Act.put, List.getElem_toArray, List.getElem_cons_zero, List.getElem_cons_succ, List.setIfInBounds_toArray, List.set_cons_zero, List.set_cons_succ])
          
          (refine wpAnyL_take (S0 := (fun _ => True)) (i := 13) (q := 14) (v := ?lv12) rfl rfl (by kernel_rfl) (by kernel_rfl) (by kernel_rfl) (by kernel_rfl) (by kernel_rfl) (fun _ _ _ h => h) (fun _ _ _ _ => True.intro) (untilL_set (by decide) (by decide)) (Or.inl ⟨by rfl, ?lhy12⟩) ⟨(fun h => Bool.noConfusion (show true = false from h)), fun _ => cu2⟩ ?lrest12; case lhy12 => (intro w hSw; (try dsimp only at hSw); go_simp; (try with_reducible rfl)); (try simp only [Act.put, List.getElem_toArray, List.getElem_cons_zero, List.getElem_cons_succ, List.setIfInBounds_toArray, List.set_cons_zero, List.set_cons_succ]))
          refine wpAnyL_ready (rs := [14]) (by kernel_rfl) (by simp) ?_; refine AllReadyL.cons (i := 14) rfl (fun K hK => ?_) AllReadyL.nil
          go_simp
          refine hK.out _ _ ⟨(fun h => Bool.noConfusion (show true = false from h)), (fun h => Bool.noConfusion (show true = false from h))⟩ (fun hHeld => ?_); clear hK K; (try simp only [Act.put, List.getElem_toArray, List.getElem_cons_zero, List.getElem_cons_succ, List.setIfInBounds_toArray, List.set_cons_zero, List.set_cons_succ])
          (refine wpAnyL_take (S0 := (fun _ => True)) (i := 15) (q := 16) (v := ?lv13) rfl rfl (by kernel_rfl) (by kernel_rfl) (by kernel_rfl) (by kernel_rfl) (by kernel_rfl) (fun _ _ _ h => h) (fun _ _ _ _ => True.intro) (untilL_set (by decide) (by decide)) (Or.inl ⟨by rfl, ?lhy13⟩) ⟨(fun h => Bool.noConfusion (show true = false from h)), (fun h => Bool.noConfusion (show true = false from h))⟩ ?lrest13; case lhy13 => (intro w hSw; (try dsimp only at hSw); go_simp; (try with_reducible rfl)); (try simp only [Act.put, List.getElem_toArray, List.getElem_cons_zero, List.getElem_cons_succ, List.setIfInBounds_toArray, List.set_cons_zero, List.set_cons_succ])); (refine wpAnyL_take (S0 := (fun _ => True)) (i := 16) (q := 17) (v := ?lv14) rfl rfl (by kernel_rfl) (by kernel_rfl) (by kernel_rfl) (by kernel_rfl) (by kernel_rfl) (fun _ _ _ h => h) (fun _ _ _ _ => True.intro) (untilL_set (by decide) (by decide)) (Or.inl ⟨by rfl, ?lhy14⟩) ⟨(fun h => Bool.noConfusion (show true = false from h)), (fun h => Bool.noConfusion (show true = false from h))⟩ ?lrest14; case lhy14 => (intro w hSw; (try dsimp only at hSw); go_simp; (try with_reducible rfl)); (try simp only [Act.put, List.getElem_toArray, List.getElem_cons_zero, List.getElem_cons_succ, List.setIfInBounds_toArray, List.set_cons_zero, List.set_cons_succ]))
          refine wpAnyL_ready (rs := [17]) (by kernel_rfl) (by simp) ?_; refine AllReadyL.cons (i := 17) rfl (fun K hK => ?_) AllReadyL.nil
          go_simp
          refine hK.out _ _ ⟨(fun h => Bool.noConfusion (show true = false from h)), (fun h => Bool.noConfusion (show true = false from h))⟩ (fun hHeld => ?_); clear hK K; (try simp only [Act.put, List.getElem_toArray, List.getElem_cons_zero, List.getElem_cons_succ, List.setIfInBounds_toArray, List.set_cons_zero, List.set_cons_succ])
          refine wpAnyL_done (by kernel_rfl) ?_ _; refine NoPanic.normal ?_
          go_wp2_with fail
          refine (ih _ _ _ _ _ _ H3.out (hO.snoc hlt hmo.out) hl2 hsC hnb).mono ?_; rintro e w4 ⟨rfl, vo4, vb4, h4⟩
          rw [← HR.out] at h4
          rcases h4.m.ow.shape with ⟨-, hnil⟩ | ⟨g4, cap4, rfl, -, -, hcap4, hml4, -⟩
          · exact absurd hnil (by simp)
          have HT : Hid ((O ++ [(k : Int)]).take O.length = O) := by unfold Hid; simp
          have co4 := h4.m.co
          have fo4 := h4.m.fo
          have cu4 := h4.m.cu
          have us4 := (h4.m.us k hlt).1
          have fu4 := (h4.m.us k hlt).2
          rw [HL4.out] at co4 hcap4
          have co4d : w4.drew.cell? ⟨bo, 3, none⟩ = some (.slice (some ⟨g4, 0, none⟩) (O.length + 1) cap4) := co4
          have cu4d : w4.drew.cell? ⟨bo, 4, none⟩ = some (.slice (some ⟨bu, 0, none⟩) n n) := cu4
          have M5 := (((h4.m.setUsed k hlt false).short O.length (by rw [HL4.out]; omega)).putO (by decide) (by decide) (.slice (some ⟨g4, 0, none⟩) O.length cap4)).below ((Below.refl _ _).dr)
          rw [HT.out] at M5
          have H4 := Lib.hid h4
          have hm0 : (0 : Int) ≤ (O.length : Int) := by omega
          have hm2 : (O.length : Int) ≤ (cap4 : Int) := by omega
          unfold maxLen at hml4
          have hmw : IntKind.i64.wrap (O.length : Int) = (O.length : Int) := wraps_i64 _ hm0 (by omega)
          have H6 : SrchI lo bo bu n D w0 vc vf vl _ _ O vb4 (foldO F d O s b (k + 1)) := ⟨M5.fun (fun j hj => memO_back HMM.out j), H4.out.bn, H4.out.bs⟩
          have H6 := Lib.hid H6
          clear M5 h4
          go_wp2_with fail
          
          refine wp_region_noPanic ?_; refine wp_region_L (S := untilL 13 13 (fun w' => w'.cell? ⟨bo, 3, none⟩ = some (.slice (some ⟨g4, 0, none⟩) (O.length + 1) cap4)) (fun w' => w'.cell? ⟨bo, 4, none⟩ = some (.slice (some ⟨bu, 0, none⟩) n n))) (by kernel_rfl) ?_
          (refine wpAnyL_take (S0 := (fun _ => True)) (i := 0) (q := 1) (v := ?lv15) rfl rfl (by kernel_rfl) (by kernel_rfl) (by kernel_rfl) (by kernel_rfl) (by kernel_rfl) (fun _ _ _ h => h) (fun _ _ _ _ => True.intro) (untilL_set (by decide) (by decide)) (Or.inl ⟨by rfl, ?lhy15⟩) ⟨fun _ => co4d, fun _ => cu4d⟩ ?lrest15; case lhy15 => (intro w hSw; (try dsimp only at hSw); go_simp; (try with_reducible rfl)); (try simp only [Act.put, List.getElem_toArray, List.getElem_cons_zero, List.getElem_cons_succ, List.setIfInBounds_toArray, List.set_cons_zero, List.set_cons_succ])); (refine wpAnyL_take (S0 := (fun _ => True)) (i := 1) (q := 2) (v := ?lv16) rfl rfl (by kernel_rfl) (by kernel_rfl) (by kernel_rfl) (by kernel_rfl) (by kernel_rfl) (fun _ _ _ h => h) (fun _ _ _ _ => True.intro) (untilL_set (by decide) (by decide)) (Or.inl ⟨by rfl, ?lhy16⟩) ⟨fun _ => co4d, fun _ => cu4d⟩ ?lrest16; case lhy16 => (intro w hSw; (try dsimp only at hSw); go_simp; (try with_reducible rfl)); (try simp only [Act.put, List.getElem_toArray, List.getElem_cons_zero, List.getElem_cons_succ, List.setIfInBounds_toArray, List.set_cons_zero, List.set_cons_succ])); (refine wpAnyL_take (S0 := (fun _ => True)) (i := 2) (q := 3) (v := ?lv17) rfl rfl (by kernel_rfl) (by kernel_rfl) (by kernel_rfl) (by kernel_rfl) (by kernel_rfl) (fun _ _ _ h => h) (fun _ _ _ _ => True.intro) (untilL_set (by decide) (by decide)) (Or.inl ⟨by rfl, ?lhy17⟩) ⟨fun _ => co4d, fun _ => cu4d⟩ ?lrest17; case lhy17 => (intro w hSw; (try dsimp only at hSw); go_simp; (try with_reducible rfl)); (try simp only [Act.put, List.getElem_toArray, List.getElem_cons_zero, List.getElem_cons_succ, List.setIfInBounds_toArray, List.set_cons_zero, List.set_cons_succ])); (refine wpAnyL_take (S0 := (fun w' => w'.cell? ⟨bo, 4, none⟩ = some (.slice (some ⟨bu, 0, none⟩) n n))) (i := 3) (q := 13) (v := ?lv18) rfl rfl (by kernel_rfl) (by kernel_rfl) (by kernel_rfl) (by kernel_rfl) (by kernel_rfl) (fun _ _ _ h => h) (fun _ _ hq hS => hS.2 hq) (untilL_set (by decide) (by decide)) (Or.inl ⟨by rfl, ?lhy18⟩) ⟨fun _ => co4d, fun _ => cu4d⟩ ?lrest18; case lhy18 => (intro w hSw; (try dsimp only at hSw); go_simp; (try with_reducible rfl)); (try simp only [Act.put, List.getElem_toArray, List.getElem_cons_zero, List.getElem_cons_succ, List.setIfInBounds_toArray, List.set_cons_zero, List.set_cons_succ])); (refine wpAnyL_take (S0 := (fun _ => True)) (i := 4) (q := 12) (v := ?lv19) rfl rfl (by kernel_rfl) (by kernel_rfl) (by kernel_rfl) (by kernel_rfl) (by kernel_rfl) (fun _ _ _ h => h) (fun _ _ _ _ => True.intro) (untilL_set (by decide) (by decide)) (Or.inl ⟨by rfl, ?lhy19⟩) ⟨fun _ => co4d, fun _ => cu4d⟩ ?lrest19; case lhy19 => (intro w hSw; (try dsimp only at hSw); go_simp; (try with_reducible rfl)); (try simp only [Act.put, List.getElem_toArray, List.getElem_cons_zero, List.getElem_cons_succ, List.setIfInBounds_toArray, List.set_cons_zero, List.set_cons_succ])); (refine wpAnyL_take (S0 := (fun _ => True)) (i := 5) (q := 14) (v := ?lv20) rfl rfl (by kernel_rfl) (by kernel_rfl) (by kernel_rfl) (by kernel_rfl) (by kernel_rfl) (fun _ _ _ h => h) (fun _ _ _ _ => True.intro) (untilL_set (by decide) (by decide)) (Or.inl ⟨by rfl, ?lhy20⟩) ⟨fun _ => co4d, fun _ => cu4d⟩ ?lrest20; case lhy20 => (intro w hSw; (try dsimp only at hSw); go_simp; (try with_reducible rfl)); (try simp only [Act.put, List.getElem_toArray, List.getElem_cons_zero, List.getElem_cons_succ, List.setIfInBounds_toArray, List.set_cons_zero, List.set_cons_succ])); (refine wpAnyL_take (S0 := (fun _ => True)) (i := 6) (q := 7) (v := ?lv21) rfl rfl (by kernel_rfl) (by kernel_rfl) (by kernel_rfl) (by kernel_rfl) (by kernel_rfl) (fun _ _ _ h => h) (fun _ _ _ _ => True.intro) (untilL_set (by decide) (by decide)) (Or.inl ⟨by rfl, ?lhy21⟩) ⟨fun _ => co4d, fun _ => cu4d⟩ ?lrest21; case lhy21 => (intro w hSw; (try dsimp only at hSw); go_simp; (try with_reducible rfl)); (try simp only [Act.put, List.getElem_toArray, List.getElem_cons_zero, List.getElem_cons_succ, List.setIfInBounds_toArray, List.set_cons_zero, List.set_cons_succ])); (refine wpAnyL_take (S0 := (fun _ => True)) (i := 7) (q := 8) (v := ?lv22) rfl rfl (by kernel_rfl) (by kernel_rfl) (by kernel_rfl) (by kernel_rfl) (by kernel_rfl) (fun _ _ _ h => h) (fun _ _ _ _ => True.intro) (untilL_set (by decide) (by decide)) (Or.inl ⟨by rfl, ?lhy22⟩) ⟨fun _ => co4d, fun _ => cu4d⟩ ?lrest22; case lhy22 => (intro w hSw; (try dsimp only at hSw); go_simp; (try with_reducible rfl)); (try simp only [Act.put, List.getElem_toArray, List.getElem_cons_zero, List.getElem_cons_succ, List.setIfInBounds_toArray, List.set_cons_zero, List.set_cons_succ])); (refine wpAnyL_take (S0 := (fun _ => True)) (i := 8) (q := 9) (v := ?lv23) rfl rfl (by kernel_rfl) (by kernel_rfl) (by kernel_rfl) (by kernel_rfl) (by kernel_rfl) (fun _ _ _ h => h) (fun _ _ _ _ => True.intro) (untilL_set (by decide) (by decide)) (Or.inl ⟨by rfl, ?lhy23⟩) ⟨fun _ => co4d, fun _ => cu4d⟩ ?lrest23; case lhy23 => (intro w hSw; (try dsimp only at hSw); go_simp; (try with_reducible rfl)); (try simp only [Act.put, List.getElem_toArray, List.getElem_cons_zero, List.getElem_cons_succ, List.setIfInBounds_toArray, List.set_cons_zero, List.set_cons_succ])); (refine wpAnyL_take (S0 := (fun w' => w'.cell? ⟨bo, 3, none⟩ = some (.slice (some ⟨g4, 0, none⟩) (O.length + 1) cap4))) (i := 9) (q := 13) (v := ?lv24) rfl rfl (by kernel_rfl) (by kernel_rfl) (by kernel_rfl) (by kernel_rfl) (by kernel_rfl) (fun _ _ _ h => h) (fun _ _ hq hS => hS.1 hq) (untilL_set (by decide) (by decide)) (Or.inl ⟨by rfl, ?lhy24⟩) ⟨fun _ => co4d, fun _ => cu4d⟩ ?lrest24; case lhy24 => (intro w hSw; (try dsimp only at hSw); go_simp; (try with_reducible rfl)); (try simp only [Act.put, List.getElem_toArray, List.getElem_cons_zero, List.getElem_cons_succ, List.setIfInBounds_toArray, List.set_cons_zero, List.set_cons_succ])); (refine wpAnyL_take (S0 := (fun _ => True)) (i := 10) (q := 11) (v := ?lv25) rfl rfl (by kernel_rfl) (by kernel_rfl) (by kernel_rfl) (by kernel_rfl) (by kernel_rfl) (fun _ _ _ h => h) (fun _ _ _ _ => True.intro) (untilL_set (by decide) (by decide)) (Or.inl ⟨by rfl, ?lhy25⟩) ⟨fun _ => co4d, fun _ => cu4d⟩ ?lrest25; case lhy25 => (intro w hSw; (try dsimp only at hSw); go_simp; (try with_reducible rfl)); (try simp only [Act.put, List.getElem_toArray, List.getElem_cons_zero, List.getElem_cons_succ, List.setIfInBounds_toArray, List.set_cons_zero, List.set_cons_succ])); (refine wpAnyL_take (S0 := (fun _ => True)) (i := 11) (q := 16) (v := ?lv26) rfl rfl (by kernel_rfl) (by kernel_rfl) (by kernel_rfl) (by kernel_rfl) (by kernel_rfl) (fun _ _ _ h => h) (fun _ _ _ _ => True.intro) (untilL_set (by decide) (by decide)) (Or.inl ⟨by rfl, ?lhy26⟩) ⟨fun _ => co4d, fun _ => cu4d⟩ ?lrest26; case lhy26 => (intro w hSw; (try dsimp only at hSw); go_simp; (try with_reducible rfl)); (try simp only [Act.put, List.getElem_toArray, List.getElem_cons_zero, List.getElem_cons_succ, List.setIfInBounds_toArray, List.set_cons_zero, List.set_cons_succ])); (refine wpAnyL_take (S0 := (fun _ => True)) (i := 12) (q := 13) (v := ?lv27) rfl rfl (by kernel_rfl) (by kernel_rfl) (by kernel_rfl) (by kernel_rfl) (by kernel_rfl) (fun _ _ _ h => h) (fun _ _ _ _ => True.intro) (untilL_set (by decide) (by decide)) (Or.inl ⟨by rfl, ?lhy27⟩) ⟨fun _ => co4d, fun _ => cu4d⟩ ?lrest27; case lhy27 => (intro w hSw; (try dsimp only at hSw); go_simp; (try with_reducible rfl)); (try simp only [Act.put, List.getElem_toArray, List.getElem_cons_zero, List.getElem_cons_succ, List.setIfInBounds_toArray, List.set_cons_zero, List.set_cons_succ]))
          refine wpAnyL_ready (rs := [13]) (by kernel_rfl) (by simp) ?_; refine AllReadyL.cons (i := 13) rfl (fun K hK => ?_) AllReadyL.nil
          go_simp
          refine hK.out _ _ ⟨(fun h => Bool.noConfusion (show true = false from h)), (fun h => Bool.noConfusion (show true = false from h))⟩ (fun hHeld => ?_); clear hK K; (try simp only [Act.put, List.getElem_toArray, List.getElem_cons_zero, List.getElem_cons_succ, List.setIfInBounds_toArray, List.set_cons_zero, List.set_cons_succ])
          (refine wpAnyL_take (S0 := (fun _ => True)) (i := 14) (q := 15) (v := ?lv28) rfl rfl (by kernel_rfl) (by kernel_rfl) (by kernel_rfl) (by kernel_rfl) (by kernel_rfl) (fun _ _ _ h => h) (fun _ _ _ _ => True.intro) (untilL_set (by decide) (by decide)) (Or.inl ⟨by rfl, ?lhy28⟩) ⟨(fun h => Bool.noConfusion (show true = false from h)), (fun h => Bool.noConfusion (show true = false from h))⟩ ?lrest28; case lhy28 => (intro w hSw; (try dsimp only at hSw); go_simp; (try with_reducible rfl)); (try simp only [Act.put, List.getElem_toArray, List.getElem_cons_zero, List.getElem_cons_succ, List.setIfInBounds_toArray, List.set_cons_zero, List.set_cons_succ])); (refine wpAnyL_take (S0 := (fun _ => True)) (i := 15) (q := 16) (v := ?lv29) rfl rfl (by kernel_rfl) (by kernel_rfl) (by kernel_rfl) (by kernel_rfl) (by kernel_rfl) (fun _ _ _ h => h) (fun _ _ _ _ => True.intro) (untilL_set (by decide) (by decide)) (Or.inl ⟨by rfl, ?lhy29⟩) ⟨(fun h => Bool.noConfusion (show true = false from h)), (fun h => Bool.noConfusion (show true = false from h))⟩ ?lrest29; case lhy29 => (intro w hSw; (try dsimp only at hSw); go_simp; (try with_reducible rfl)); (try simp only [Act.put, List.getElem_toArray, List.getElem_cons_zero, List.getElem_cons_succ, List.setIfInBounds_toArray, List.set_cons_zero, List.set_cons_succ]))
          refine wpAnyL_ready (rs := [16]) (by kernel_rfl) (by simp) ?_; refine AllReadyL.cons (i := 16) rfl (fun K hK => ?_) AllReadyL.nil
          go_simp
          refine hK.out _ _ ⟨(fun h => Bool.noConfusion (show true = false from h)), (fun h => Bool.noConfusion (show true = false from h))⟩ (fun hHeld => ?_); clear hK K; (try simp only [Act.put, List.getElem_toArray, List.getElem_cons_zero, List.getElem_cons_succ, List.setIfInBounds_toArray, List.set_cons_zero, List.set_cons_succ])
          refine wpAnyL_done (by kernel_rfl) ?_ _; refine NoPanic.normal ?_
          go_wp2_with fail
          go_roundw
          case rel => exact ⟨k + 1, by omega, by go_num, _, _, H6.out⟩
          case measure => simp [intOf]; omega
        · rcases hS.m.ow.shape with ⟨-, hnil⟩ | ⟨g1, cap1, rfl, hg1, hg2, hcap1, hml1, hcr1, -⟩
          · exact absurd hnil hne
          have hzl : (0 : Int) < (O.length : Int) := by have := List.length_pos_iff.2 hne; omega
          obtain ⟨e1, e2⟩ := lastI_at hO hne
          have xo := hcr1 (O.length - 1) (by omega)
          rw [e1] at xo
          have hx : (F.costs.getD (lastI O) []).getD k 0 = C := by have := HC2.out; rw [if_neg hne] at this; exact this.symm
          obtain ⟨q, Hq⟩ : ∃ q, Hid (lastI O = q) := ⟨_, rfl⟩
          rw [Hq.out] at e2 xo hx
          obtain ⟨b0, o0, cp0, evc, hcc⟩ := hR.cc
          obtain ⟨bi, oi, ci, -, -, xc, xr0⟩ := hcc q e2
          have xr := xr0 k hlt
          rw [hx] at xr
          clear xr0 hcc hcr1
          have c0 := hS.m.c0
          rw [evc] at c0
          have HMM := Lib.hid hm
          have hq0 : (0 : Int) ≤ (q : Int) := by omega
          have hq1 : (q : Int) < (n : Int) := by omega
          have hin0 : (0 : Int) ≤ ((O.length - 1 : Nat) : Int) := by omega
          have hin1 : ((O.length - 1 : Nat) : Int) < (O.length : Int) := by omega
          clear hne hx hR hC hn hm e1 evc
          go_wp2_with fail
          go_quiet (fail)
          clear hnb
          have hnb := HN.out
          have fu := (hS.m.us k hlt).2
          have fo := hS.m.fo
          have HD := Lib.hid (hS.below ((Below.refl _ _).drN nq))
          have hlo1 : lo ≤ wr.heap.size := by have h1 := hS.m.up.size; have h2 := hS.m.hlo; omega
          have hlo1 : lo ≤ (wr.drewN nq).heap.size := by exact hlo1
          have HS := Lib.hid hS
          have cod : (wr.drewN nq).drew.cell? ⟨bo, 3, none⟩ = some (.slice (some ⟨g1, 0, none⟩) O.length cap1) := co
          have cud : (wr.drewN nq).drew.cell? ⟨bo, 4, none⟩ = some (.slice (some ⟨bu, 0, none⟩) n n) := cu
          have coa : ∀ ob, ((wr.alloc ob).drewN nq).drew.cell? ⟨bo, 3, none⟩ = some (.slice (some ⟨g1, 0, none⟩) O.length cap1) := fun ob => cellB ((((Below.refl _ _).al _).drN nq).dr) co
          have cua : ∀ ob, ((wr.alloc ob).drewN nq).drew.cell? ⟨bo, 4, none⟩ = some (.slice (some ⟨bu, 0, none⟩) n n) := fun ob => cellB ((((Below.refl _ _).al _).drN nq).dr) cu
          have hk0 : (0 : Int) ≤ (k : Int) := by omega
          have hk1 : (k : Int) < (n : Int) := by omega
          clear hS
          go_wp2_with fail
          
          refine wp_region_noPanic ?_; refine wp_region_L (S := untilL 12 14 (fun w' => w'.cell? ⟨bo, 3, none⟩ = some (.slice (some ⟨g1, 0, none⟩) O.length cap1)) (fun w' => w'.cell? ⟨bo, 4, none⟩ = some (.slice (some ⟨bu, 0, none⟩) n n))) (by kernel_rfl) ?_
          (refine wpAnyL_take (S0 := (fun _ => True)) (i := 0) (q := 1) (v := ?lv30) rfl rfl (by kernel_rfl) (by kernel_rfl) (by kernel_rfl) (by kernel_rfl) (by kernel_rfl) (fun _ _ _ h => h) (fun _ _ _ _ => True.intro) (untilL_set (by decide) (by decide)) (Or.inl ⟨by rfl, ?lhy30⟩) ⟨fun _ => cod, fun _ => cud⟩ ?lrest30; case lhy30 => (intro w hSw; (try dsimp only at hSw); go_simp; (try with_reducible rfl)); (try simp only [Act.put, List.getElem_toArray, List.getElem_cons_zero, List.getElem_cons_succ, List.setIfInBounds_toArray, List.set_cons_zero, List.set_cons_succ])); (refine wpAnyL_take (S0 := (fun _ => True)) (i := 1) (q := 2) (v := ?lv31) rfl rfl (by kernel_rfl) (by kernel_rfl) (by kernel_rfl) (by kernel_rfl) (by kernel_rfl) (fun _ _ _ h => h) (fun _ _ _ _ => True.intro) (untilL_set (by decide) (by decide)) (Or.inl ⟨by rfl, ?lhy31⟩) ⟨fun _ => cod, fun _ => cud⟩ ?lrest31; case lhy31 => (intro w hSw; (try dsimp only at hSw); go_simp; (try with_reducible rfl)); (try simp only [Act.put, List.getElem_toArray, List.getElem_cons_zero, List.getElem_cons_succ, List.setIfInBounds_toArray, List.set_cons_zero, List.set_cons_succ])); (refine wpAnyL_take (S0 := (fun _ => True)) (i := 2) (q := 3) (v := ?lv32) rfl rfl (by kernel_rfl) (by kernel_rfl) (by kernel_rfl) (by kernel_rfl) (by kernel_rfl) (fun _ _ _ h => h) (fun _ _ _ _ => True.intro) (untilL_set (by decide) (by decide)) (Or.inl ⟨by rfl, ?lhy32⟩) ⟨fun _ => cod, fun _ => cud⟩ ?lrest32; case lhy32 => (intro w hSw; (try dsimp only at hSw); go_simp; (try with_reducible rfl)); (try simp only [Act.put, List.getElem_toArray, List.getElem_cons_zero, List.getElem_cons_succ, List.setIfInBounds_toArray, List.set_cons_zero, List.set_cons_succ])); (refine wpAnyL_take (S0 := (fun w' => w'.cell? ⟨bo, 4, none⟩ = some (.slice (some ⟨bu, 0, none⟩) n n))) (i := 3) (q := 14) (v := ?lv33) rfl rfl (by kernel_rfl) (by kernel_rfl) (by kernel_rfl) (by kernel_rfl) (by kernel_rfl) (fun _ _ _ h => h) (fun _ _ hq hS => hS.2 hq) (untilL_set (by decide) (by decide)) (Or.inl ⟨by rfl, ?lhy33⟩) ⟨fun _ => cod, fun _ => cud⟩ ?lrest33; case lhy33 => (intro w hSw; (try dsimp only at hSw); go_simp; (try with_reducible rfl)); (try simp only [Act.put, List.getElem_toArray, List.getElem_cons_zero, List.getElem_cons_succ, List.setIfInBounds_toArray, List.set_cons_zero, List.set_cons_succ])); (refine wpAnyL_take (S0 := (fun _ => True)) (i := 4) (q := 13) (v := ?lv34) rfl rfl (by kernel_rfl) (by kernel_rfl) (by kernel_rfl) (by kernel_rfl) (by kernel_rfl) (fun _ _ _ h => h) (fun _ _ _ _ => True.intro) (untilL_set (by decide) (by decide)) (Or.inl ⟨by rfl, ?lhy34⟩) ⟨fun _ => cod, fun _ => cud⟩ ?lrest34; case lhy34 => (intro w hSw; (try dsimp only at hSw); go_simp; (try with_reducible rfl)); (try simp only [Act.put, List.getElem_toArray, List.getElem_cons_zero, List.getElem_cons_succ, List.setIfInBounds_toArray, List.set_cons_zero, List.set_cons_succ])); (refine wpAnyL_take (S0 := (fun _ => True)) (i := 5) (q := 15) (v := ?lv35) rfl rfl (by kernel_rfl) (by kernel_rfl) (by kernel_rfl) (by kernel_rfl) (by kernel_rfl) (fun _ _ _ h => h) (fun _ _ _ _ => True.intro) (untilL_set (by decide) (by decide)) (Or.inl ⟨by rfl, ?lhy35⟩) ⟨fun _ => cod, fun _ => cud⟩ ?lrest35; case lhy35 => (intro w hSw; (try dsimp only at hSw); go_simp; (try with_reducible rfl)); (try simp only [Act.put, List.getElem_toArray, List.getElem_cons_zero, List.getElem_cons_succ, List.setIfInBounds_toArray, List.set_cons_zero, List.set_cons_succ])); (refine wpAnyL_take (S0 := (fun _ => True)) (i := 6) (q := 7) (v := ?lv36) rfl rfl (by kernel_rfl) (by kernel_rfl) (by kernel_rfl) (by kernel_rfl) (by kernel_rfl) (fun _ _ _ h => h) (fun _ _ _ _ => True.intro) (untilL_set (by decide) (by decide)) (Or.inl ⟨by rfl, ?lhy36⟩) ⟨fun _ => cod, fun _ => cud⟩ ?lrest36; case lhy36 => (intro w hSw; (try dsimp only at hSw); go_simp; (try with_reducible rfl)); (try simp only [Act.put, List.getElem_toArray, List.getElem_cons_zero, List.getElem_cons_succ, List.setIfInBounds_toArray, List.set_cons_zero, List.set_cons_succ])); (refine wpAnyL_take (S0 := (fun _ => True)) (i := 7) (q := 8) (v := ?lv37) rfl rfl (by kernel_rfl) (by kernel_rfl) (by kernel_rfl) (by kernel_rfl) (by kernel_rfl) (fun _ _ _ h => h) (fun _ _ _ _ => True.intro) (untilL_set (by decide) (by decide)) (Or.inl ⟨by rfl, ?lhy37⟩) ⟨fun _ => cod, fun _ => cud⟩ ?lrest37; case lhy37 => (intro w hSw; (try dsimp only at hSw); go_simp; (try with_reducible rfl)); (try simp only [Act.put, List.getElem_toArray, List.getElem_cons_zero, List.getElem_cons_succ, List.setIfInBounds_toArray, List.set_cons_zero, List.set_cons_succ])); (refine wpAnyL_take (S0 := (fun _ => True)) (i := 8) (q := 9) (v := ?lv38) rfl rfl (by kernel_rfl) (by kernel_rfl) (by kernel_rfl) (by kernel_rfl) (by kernel_rfl) (fun _ _ _ h => h) (fun _ _ _ _ => True.intro) (untilL_set (by decide) (by decide)) (Or.inl ⟨by rfl, ?lhy38⟩) ⟨fun _ => cod, fun _ => cud⟩ ?lrest38; case lhy38 => (intro w hSw; (try dsimp only at hSw); go_simp; (try with_reducible rfl)); (try simp only [Act.put, List.getElem_toArray, List.getElem_cons_zero, List.getElem_cons_succ, List.setIfInBounds_toArray, List.set_cons_zero, List.set_cons_succ])); (refine wpAnyL_take (S0 := (fun w' => w'.cell? ⟨bo, 3, none⟩ = some (.slice (some ⟨g1, 0, none⟩) O.length cap1))) (i := 9) (q := 12) (v := ?lv39) rfl rfl (by kernel_rfl) (by kernel_rfl) (by kernel_rfl) (by kernel_rfl) (by kernel_rfl) (fun _ _ _ h => h) (fun _ _ hq hS => hS.1 hq) (untilL_set (by decide) (by decide)) (Or.inl ⟨by rfl, ?lhy39⟩) ⟨fun _ => cod, fun _ => cud⟩ ?lrest39; case lhy39 => (intro w hSw; (try dsimp only at hSw); go_simp; (try with_reducible rfl)); (try simp only [Act.put, List.getElem_toArray, List.getElem_cons_zero, List.getElem_cons_succ, List.setIfInBounds_toArray, List.set_cons_zero, List.set_cons_succ])); (refine wpAnyL_take (S0 := (fun _ => True)) (i := 10) (q := 11) (v := ?lv40) rfl rfl (by kernel_rfl) (by kernel_rfl) (by kernel_rfl) (by kernel_rfl) (by kernel_rfl) (fun _ _ _ h => h) (fun _ _ _ _ => True.intro) (untilL_set (by decide) (by decide)) (Or.inl ⟨by rfl, ?lhy40⟩) ⟨fun _ => cod, fun _ => cud⟩ ?lrest40; case lhy40 => (intro w hSw; (try dsimp only at hSw); go_simp; (try with_reducible rfl)); (try simp only [Act.put, List.getElem_toArray, List.getElem_cons_zero, List.getElem_cons_succ, List.setIfInBounds_toArray, List.set_cons_zero, List.set_cons_succ]))
          refine wpAnyL_ready (rs := [11]) (by kernel_rfl) (by simp) ?_; refine AllReadyL.cons (i := 11) rfl (fun K hK => ?_) AllReadyL.nil
          go_simp
          refine hK.out _ _ ⟨(fun _ => coa _), (fun _ => cua _)⟩ (fun hHeld => ?_); clear hK K; (try simp only [Act.put, List.getElem_toArray, List.getElem_cons_zero, List.getElem_cons_succ, List.setIfInBounds_toArray, List.set_cons_zero, List.set_cons_succ])
          refine wpAnyL_ready (rs := [12]) (by kernel_rfl) (by simp) ?_; refine AllReadyL.cons (i := 12) rfl (fun K hK => ?_) AllReadyL.nil
          refine step_push_i rfl _ _ _ rfl Try.underlying28 infoI lo _ O (k : Int) (wr.drewN nq).heap.size _ rfl rfl ?_ (by exact (HS.out.m.below ((((Below.refl _ _).al _).drN nq).dr)).ow) (by omega) (by show lo ≤ (wr.alloc _).heap.size; rw [World.size_alloc]; exact Nat.le_succ_of_le hlo1) ?_
          · exact World.cell?_alloc_at _ _ _ _ rfl
          intro v2 w2 ho2 hg2 hat2 hs2
          have M2 := (HS.out.m.below ((((Below.refl _ _).al _).drN nq).dr)).grow ho2 hg2 (by
            rcases hat2 with e | e
            · exact Or.inl e
            · refine Or.inr (fun q hq => ?_)
              rw [e] at hq
              simp only [Option.some.injEq] at hq
              exact Nat.le_of_eq hq)
          rcases ho2.shape with ⟨-, hnil⟩ | ⟨g2, cap2, rfl, -⟩
          · exact absurd hnil (by simp)
          have hlen4 : (O ++ [(k : Int)]).length = O.length + 1 := by simp
          rw [hlen4] at M2
          have HL4 := Lib.hid hlen4
          clear hlen4 hs2 hat2 hg2 ho2 hlo1 coa cua
          have cu2 := M2.cu
          have us2 := (M2.us k hlt).1
          have fu2 := (M2.us k hlt).2
          have co2 := M2.co
          have fo2 := M2.fo
          have M3 := (M2.setUsed k hlt true).putO (by decide) (by decide) (.slice (some ⟨g2, 0, none⟩) (O.length + 1) cap2)
          have H3 : SrchI lo bo bu n D w0 vc vf vl _ _ (O ++ [(k : Int)]) vb' b' := ⟨M3.fun (fun j hj => (memO_snoc O k j).symm), HS.out.bn, HS.out.bs⟩
          have H3 := Lib.hid H3
          clear M2 M3 co cu us fu cod cud
          
          refine hK.out _ _ ⟨(fun h => Bool.noConfusion (show true = false from h)), (fun _ => cu2)⟩ (fun hHeld => ?_); clear hK K; (try simp only [Act.put, List.getElem_toArray, List.getElem_cons_zero, List.getElem_cons_succ, List.setIfInBounds_toArray, List.set_cons_zero, List.set_cons_succ])
          
          (refine wpAnyL_take (S0 := (fun _ => True)) (i := 13) (q := 14) (v := ?lv41) rfl rfl (by kernel_rfl) (by kernel_rfl) (by kernel_rfl) (by kernel_rfl) (by kernel_rfl) (fun _ _ _ h => h) (fun _ _ _ _ => True.intro) (untilL_set (by decide) (by decide)) (Or.inl ⟨by rfl, ?lhy41⟩) ⟨(fun h => Bool.noConfusion (show true = false from h)), fun _ => cu2⟩ ?lrest41; case lhy41 => (intro w hSw; (try dsimp only at hSw); go_simp; (try with_reducible rfl)); (try simp only [Act.put, List.getElem_toArray, List.getElem_cons_zero, List.getElem_cons_succ, List.setIfInBounds_toArray, List.set_cons_zero, List.set_cons_succ]))
          refine wpAnyL_ready (rs := [14]) (by kernel_rfl) (by simp) ?_; refine AllReadyL.cons (i := 14) rfl (fun K hK => ?_) AllReadyL.nil
          go_simp
          refine hK.out _ _ ⟨(fun h => Bool.noConfusion (show true = false from h)), (fun h => Bool.noConfusion (show true = false from h))⟩ (fun hHeld => ?_); clear hK K; (try simp only [Act.put, List.getElem_toArray, List.getElem_cons_zero, List.getElem_cons_succ, List.setIfInBounds_toArray, List.set_cons_zero, List.set_cons_succ])
          (refine wpAnyL_take (S0 := (fun _ => True)) (i := 15) (q := 16) (v := ?lv42) rfl rfl (by kernel_rfl) (by kernel_rfl) (by kernel_rfl) (by kernel_rfl) (by kernel_rfl) (fun _ _ _ h => h) (fun _ _ _ _ => True.intro) (untilL_set (by decide) (by decide)) (Or.inl ⟨by rfl, ?lhy42⟩) ⟨(fun h => Bool.noConfusion (show true = false from h)), (fun h => Bool.noConfusion (show true = false from h))⟩ ?lrest42; case lhy42 => (intro w hSw; (try dsimp only at hSw); go_simp; (try with_reducible rfl)); (try simp only [Act.put, List.getElem_toArray, List.getElem_cons_zero, List.getElem_cons_succ, List.setIfInBounds_toArray, List.set_cons_zero, List.set_cons_succ])); (refine wpAnyL_take (S0 := (fun _ => True)) (i := 16) (q := 17) (v := ?lv43) rfl rfl (by kernel_rfl) (by kernel_rfl) (by kernel_rfl) (by kernel_rfl) (by kernel_rfl) (fun _ _ _ h => h) (fun _ _ _ _ => True.intro) (untilL_set (by decide) (by decide)) (Or.inl ⟨by rfl, ?lhy43⟩) ⟨(fun h => Bool.noConfusion (show true = false from h)), (fun h => Bool.noConfusion (show true = false from h))⟩ ?lrest43; case lhy43 => (intro w hSw; (try dsimp only at hSw); go_simp; (try with_reducible rfl)); (try simp only [Act.put, List.getElem_toArray, List.getElem_cons_zero, List.getElem_cons_succ, List.setIfInBounds_toArray, List.set_cons_zero, List.set_cons_succ]))
          refine wpAnyL_ready (rs := [17]) (by kernel_rfl) (by simp) ?_; refine AllReadyL.cons (i := 17) rfl (fun K hK => ?_) AllReadyL.nil
          go_simp
          refine hK.out _ _ ⟨(fun h => Bool.noConfusion (show true = false from h)), (fun h => Bool.noConfusion (show true = false from h))⟩ (fun hHeld => ?_); clear hK K; (try simp only [Act.put, List.getElem_toArray, List.getElem_cons_zero, List.getElem_cons_succ, List.setIfInBounds_toArray, List.set_cons_zero, List.set_cons_succ])
          refine wpAnyL_done (by kernel_rfl) ?_ _; refine NoPanic.normal ?_
          go_wp2_with fail
          refine (ih _ _ _ _ _ _ H3.out (hO.snoc hlt hmo.out) hl2 hsC hnb).mono ?_; rintro e w4 ⟨rfl, vo4, vb4, h4⟩
          rw [← HR.out] at h4
          rcases h4.m.ow.shape with ⟨-, hnil⟩ | ⟨g4, cap4, rfl, -, -, hcap4, hml4, -⟩
          · exact absurd hnil (by simp)
          have HT : Hid ((O ++ [(k : Int)]).take O.length = O) := by unfold Hid; simp
          have co4 := h4.m.co
          have fo4 := h4.m.fo
          have cu4 := h4.m.cu
          have us4 := (h4.m.us k hlt).1
          have fu4 := (h4.m.us k hlt).2
          rw [HL4.out] at co4 hcap4
          have co4d : w4.drew.cell? ⟨bo, 3, none⟩ = some (.slice (some ⟨g4, 0, none⟩) (O.length + 1) cap4) := co4
          have cu4d : w4.drew.cell? ⟨bo, 4, none⟩ = some (.slice (some ⟨bu, 0, none⟩) n n) := cu4
          have M5 := (((h4.m.setUsed k hlt false).short O.length (by rw [HL4.out]; omega)).putO (by decide) (by decide) (.slice (some ⟨g4, 0, none⟩) O.length cap4)).below ((Below.refl _ _).dr)
          rw [HT.out] at M5
          have H4 := Lib.hid h4
          have hm0 : (0 : Int) ≤ (O.length : Int) := by omega
          have hm2 : (O.length : Int) ≤ (cap4 : Int) := by omega
          unfold maxLen at hml4
          have hmw : IntKind.i64.wrap (O.length : Int) = (O.length : Int) := wraps_i64 _ hm0 (by omega)
          have H6 : SrchI lo bo bu n D w0 vc vf vl _ _ O vb4 (foldO F d O s b (k + 1)) := ⟨M5.fun (fun j hj => memO_back HMM.out j), H4.out.bn, H4.out.bs⟩
          have H6 := Lib.hid H6
          clear M5 h4
          go_wp2_with fail
          
          refine wp_region_noPanic ?_; refine wp_region_L (S := untilL 13 13 (fun w' => w'.cell? ⟨bo, 3, none⟩ = some (.slice (some ⟨g4, 0, none⟩) (O.length + 1) cap4)) (fun w' => w'.cell? ⟨bo, 4, none⟩ = some (.slice (some ⟨bu, 0, none⟩) n n))) (by kernel_rfl) ?_
          (refine wpAnyL_take (S0 := (fun _ => True)) (i := 0) (q := 1) (v := ?lv44) rfl rfl (by kernel_rfl) (by kernel_rfl) (by kernel_rfl) (by kernel_rfl) (by kernel_rfl) (fun _ _ _ h => h) (fun _ _ _ _ => True.intro) (untilL_set (by decide) (by decide)) (Or.inl ⟨by rfl, ?lhy44⟩) ⟨fun _ => co4d, fun _ => cu4d⟩ ?lrest44; case lhy44 => (intro w hSw; (try dsimp only at hSw); go_simp; (try with_reducible rfl)); (try simp only [Act.put, List.getElem_toArray, List.getElem_cons_zero, List.getElem_cons_succ, List.setIfInBounds_toArray, List.set_cons_zero, List.set_cons_succ])); (refine wpAnyL_take (S0 := (fun _ => True)) (i := 1) (q := 2) (v := ?lv45) rfl rfl (by kernel_rfl) (by kernel_rfl) (by kernel_rfl) (by kernel_rfl) (by kernel_rfl) (fun _ _ _ h => h) (fun _ _ _ _ => True.intro) (untilL_set (by decide) (by decide)) (Or.inl ⟨by rfl, ?lhy45⟩) ⟨fun _ => co4d, fun _ => cu4d⟩ ?lrest45; case lhy45 => (intro w hSw; (try dsimp only at hSw); go_simp; (try with_reducible rfl)); (try simp only [Act.put, List.getElem_toArray, List.getElem_cons_zero, List.getElem_cons_succ, List.setIfInBounds_toArray, List.set_cons_zero, List.set_cons_succ])); (refine wpAnyL_take (S0 := (fun _ => True)) (i := 2) (q := 3) (v := ?lv46) rfl rfl (by kernel_rfl) (by kernel_rfl) (by kernel_rfl) (by kernel_rfl) (by kernel_rfl) (fun _ _ _ h => h) (fun _ _ _ _ => True.intro) (untilL_set (by decide) (by decide)) (Or.inl ⟨by rfl, ?lhy46⟩) ⟨fun _ => co4d, fun _ => cu4d⟩ ?lrest46; case lhy46 => (intro w hSw; (try dsimp only at hSw); go_simp; (try with_reducible rfl)); (try simp only [Act.put, List.getElem_toArray, List.getElem_cons_zero, List.getElem_cons_succ, List.setIfInBounds_toArray, List.set_cons_zero, List.set_cons_succ])); (refine wpAnyL_take (S0 := (fun w' => w'.cell? ⟨bo, 4, none⟩ = some (.slice (some ⟨bu, 0, none⟩) n n))) (i := 3) (q := 13) (v := ?lv47) rfl rfl (by kernel_rfl) (by kernel_rfl) (by kernel_rfl) (by kernel_rfl) (by kernel_rfl) (fun _ _ _ h => h) (fun _ _ hq hS => hS.2 hq) (untilL_set (by decide) (by decide)) (Or.inl ⟨by rfl, ?lhy47⟩) ⟨fun _ => co4d, fun _ => cu4d⟩ ?lrest47; case lhy47 => (intro w hSw; (try dsimp only at hSw); go_simp; (try with_reducible rfl)); (try simp only [Act.put, List.getElem_toArray, List.getElem_cons_zero, List.getElem_cons_succ, List.setIfInBounds_toArray, List.set_cons_zero, List.set_cons_succ])); (refine wpAnyL_take (S0 := (fun _ => True)) (i := 4) (q := 12) (v := ?lv48) rfl rfl (by kernel_rfl) (by kernel_rfl) (by kernel_rfl) (by kernel_rfl) (by kernel_rfl) (fun _ _ _ h => h) (fun _ _ _ _ => True.intro) (untilL_set (by decide) (by decide)) (Or.inl ⟨by rfl, ?lhy48⟩) ⟨fun _ => co4d, fun _ => cu4d⟩ ?lrest48; case lhy48 => (intro w hSw; (try dsimp only at hSw); go_simp; (try with_reducible rfl)); (try simp only [Act.put, List.getElem_toArray, List.getElem_cons_zero, List.getElem_cons_succ, List.setIfInBounds_toArray, List.set_cons_zero, List.set_cons_succ])); (refine wpAnyL_take (S0 := (fun _ => True)) (i := 5) (q := 14) (v := ?lv49) rfl rfl (by kernel_rfl) (by kernel_rfl) (by kernel_rfl) (by kernel_rfl) (by kernel_rfl) (fun _ _ _ h => h) (fun _ _ _ _ => True.intro) (untilL_set (by decide) (by decide)) (Or.inl ⟨by rfl, ?lhy49⟩) ⟨fun _ => co4d, fun _ => cu4d⟩ ?lrest49; case lhy49 => (intro w hSw; (try dsimp only at hSw); go_simp; (try with_reducible rfl)); (try simp only [Act.put, List.getElem_toArray, List.getElem_cons_zero, List.getElem_cons_succ, List.setIfInBounds_toArray, List.set_cons_zero, List.set_cons_succ])); (refine wpAnyL_take (S0 := (fun _ => True)) (i := 6) (q := 7) (v := ?lv50) rfl rfl (by kernel_rfl) (by kernel_rfl) (by kernel_rfl) (by kernel_rfl) (by kernel_rfl) (fun _ _ _ h => h) (fun _ _ _ _ => True.intro) (untilL_set (by decide) (by decide)) (Or.inl ⟨by rfl, ?lhy50⟩) ⟨fun _ => co4d, fun _ => cu4d⟩ ?lrest50; case lhy50 => (intro w hSw; (try dsimp only at hSw); go_simp; (try with_reducible rfl)); (try simp only [Act.put, List.getElem_toArray, List.getElem_cons_zero, List.getElem_cons_succ, List.setIfInBounds_toArray, List.set_cons_zero, List.set_cons_succ])); (refine wpAnyL_take (S0 := (fun _ => True)) (i := 7) (q := 8) (v := ?lv51) rfl rfl (by kernel_rfl) (by kernel_rfl) (by kernel_rfl) (by kernel_rfl) (by kernel_rfl) (fun _ _ _ h => h) (fun _ _ _ _ => True.intro) (untilL_set (by decide) (by decide)) (Or.inl ⟨by rfl, ?lhy51⟩) ⟨fun _ => co4d, fun _ => cu4d⟩ ?lrest51; case lhy51 => (intro w hSw; (try dsimp only at hSw); go_simp; (try with_reducible rfl)); (try simp only [Act.put, List.getElem_toArray, List.getElem_cons_zero, List.getElem_cons_succ, List.setIfInBounds_toArray, List.set_cons_zero, List.set_cons_succ])); (refine wpAnyL_take (S0 := (fun _ => True)) (i := 8) (q := 9) (v := ?lv52) rfl rfl (by kernel_rfl) (by kernel_rfl) (by kernel_rfl) (by kernel_rfl) (by kernel_rfl) (fun _ _ _ h => h) (fun _ _ _ _ => True.intro) (untilL_set (by decide) (by decide)) (Or.inl ⟨by rfl, ?lhy52⟩) ⟨fun _ => co4d, fun _ => cu4d⟩ ?lrest52; case lhy52 => (intro w hSw; (try dsimp only at hSw); go_simp; (try with_reducible rfl)); (try simp only [Act.put, List.getElem_toArray, List.getElem_cons_zero, List.getElem_cons_succ, List.setIfInBounds_toArray, List.set_cons_zero, List.set_cons_succ])); (refine wpAnyL_take (S0 := (fun w' => w'.cell? ⟨bo, 3, none⟩ = some (.slice (some ⟨g4, 0, none⟩) (O.length + 1) cap4))) (i := 9) (q := 13) (v := ?lv53) rfl rfl (by kernel_rfl) (by kernel_rfl) (by kernel_rfl) (by kernel_rfl) (by kernel_rfl) (fun _ _ _ h => h) (fun _ _ hq hS => hS.1 hq) (untilL_set (by decide) (by decide)) (Or.inl ⟨by rfl, ?lhy53⟩) ⟨fun _ => co4d, fun _ => cu4d⟩ ?lrest53; case lhy53 => (intro w hSw; (try dsimp only at hSw); go_simp; (try with_reducible rfl)); (try simp only [Act.put, List.getElem_toArray, List.getElem_cons_zero, List.getElem_cons_succ, List.setIfInBounds_toArray, List.set_cons_zero, List.set_cons_succ])); (refine wpAnyL_take (S0 := (fun _ => True)) (i := 10) (q := 11) (v := ?lv54) rfl rfl (by kernel_rfl) (by kernel_rfl) (by kernel_rfl) (by kernel_rfl) (by kernel_rfl) (fun _ _ _ h => h) (fun _ _ _ _ => True.intro) (untilL_set (by decide) (by decide)) (Or.inl ⟨by rfl, ?lhy54⟩) ⟨fun _ => co4d, fun _ => cu4d⟩ ?lrest54; case lhy54 => (intro w hSw; (try dsimp only at hSw); go_simp; (try with_reducible rfl)); (try simp only [Act.put, List.getElem_toArray, List.getElem_cons_zero, List.getElem_cons_succ, List.setIfInBounds_toArray, List.set_cons_zero, List.set_cons_succ])); (refine wpAnyL_take (S0 := (fun _ => True)) (i := 11) (q := 16) (v := ?lv55) rfl rfl (by kernel_rfl) (by kernel_rfl) (by kernel_rfl) (by kernel_rfl) (by kernel_rfl) (fun _ _ _ h => h) (fun _ _ _ _ => True.intro) (untilL_set (by decide) (by decide)) (Or.inl ⟨by rfl, ?lhy55⟩) ⟨fun _ => co4d, fun _ => cu4d⟩ ?lrest55; case lhy55 => (intro w hSw; (try dsimp only at hSw); go_simp; (try with_reducible rfl)); (try simp only [Act.put, List.getElem_toArray, List.getElem_cons_zero, List.getElem_cons_succ, List.setIfInBounds_toArray, List.set_cons_zero, List.set_cons_succ])); (refine wpAnyL_take (S0 := (fun _ => True)) (i := 12) (q := 13) (v := ?lv56) rfl rfl (by kernel_rfl) (by kernel_rfl) (by kernel_rfl) (by kernel_rfl) (by kernel_rfl) (fun _ _ _ h => h) (fun _ _ _ _ => True.intro) (untilL_set (by decide) (by decide)) (Or.inl ⟨by rfl, ?lhy56⟩) ⟨fun _ => co4d, fun _ => cu4d⟩ ?lrest56; case lhy56 => (intro w hSw; (try dsimp only at hSw); go_simp; (try with_reducible rfl)); (try simp only [Act.put, List.getElem_toArray, List.getElem_cons_zero, List.getElem_cons_succ, List.setIfInBounds_toArray, List.set_cons_zero, List.set_cons_succ]))
          refine wpAnyL_ready (rs := [13]) (by kernel_rfl) (by simp) ?_; refine AllReadyL.cons (i := 13) rfl (fun K hK => ?_) AllReadyL.nil
          go_simp
          refine hK.out _ _ ⟨(fun h => Bool.noConfusion (show true = false from h)), (fun h => Bool.noConfusion (show true = false from h))⟩ (fun hHeld => ?_); clear hK K; (try simp only [Act.put, List.getElem_toArray, List.getElem_cons_zero, List.getElem_cons_succ, List.setIfInBounds_toArray, List.set_cons_zero, List.set_cons_succ])
          (refine wpAnyL_take (S0 := (fun _ => True)) (i := 14) (q := 15) (v := ?lv57) rfl rfl (by kernel_rfl) (by kernel_rfl) (by kernel_rfl) (by kernel_rfl) (by kernel_rfl) (fun _ _ _ h => h) (fun _ _ _ _ => True.intro) (untilL_set (by decide) (by decide)) (Or.inl ⟨by rfl, ?lhy57⟩) ⟨(fun h => Bool.noConfusion (show true = false from h)), (fun h => Bool.noConfusion (show true = false from h))⟩ ?lrest57; case lhy57 => (intro w hSw; (try dsimp only at hSw); go_simp; (try with_reducible rfl)); (try simp only [Act.put, List.getElem_toArray, List.getElem_cons_zero, List.getElem_cons_succ, List.setIfInBounds_toArray, List.set_cons_zero, List.set_cons_succ])); (refine wpAnyL_take (S0 := (fun _ => True)) (i := 15) (q := 16) (v := ?lv58) rfl rfl (by kernel_rfl) (by kernel_rfl) (by kernel_rfl) (by kernel_rfl) (by kernel_rfl) (fun _ _ _ h => h) (fun _ _ _ _ => True.intro) (untilL_set (by decide) (by decide)) (Or.inl ⟨by rfl, ?lhy58⟩) ⟨(fun h => Bool.noConfusion (show true = false from h)), (fun h => Bool.noConfusion (show true = false from h))⟩ ?lrest58; case lhy58 => (intro w hSw; (try dsimp only at hSw); go_simp; (try with_reducible rfl)); (try simp only [Act.put, List.getElem_toArray, List.getElem_cons_zero, List.getElem_cons_succ, List.setIfInBounds_toArray, List.set_cons_zero, List.set_cons_succ]))
          refine wpAnyL_ready (rs := [16]) (by kernel_rfl) (by simp) ?_; refine AllReadyL.cons (i := 16) rfl (fun K hK => ?_) AllReadyL.nil
          go_simp
          refine hK.out _ _ ⟨(fun h => Bool.noConfusion (show true = false from h)), (fun h => Bool.noConfusion (show true = false from h))⟩ (fun hHeld => ?_); clear hK K; (try simp only [Act.put, List.getElem_toArray, List.getElem_cons_zero, List.getElem_cons_succ, List.setIfInBounds_toArray, List.set_cons_zero, List.set_cons_succ])
          refine wpAnyL_done (by kernel_rfl) ?_ _; refine NoPanic.normal ?_
          go_wp2_with fail
          go_roundw
          case rel => exact ⟨k + 1, by omega, by go_num, _, _, H6.out⟩
          case measure => simp [intOf]; omega
      · have HR : Hid (foldO F d O s b (k + 1) = foldO F d O s b k) := by unfold Hid; rw [foldO_succ]; unfold roundO; rw [if_pos (by simpa [memO] using hm)]
        rw [hm] at us
        have HS := Lib.hid hS
        clear hm hS
        go_wp2_with fail
        go_roundw
        case rel => exact ⟨k + 1, by omega, by go_num, _, _, by rw [HR.out]; exact HS.out⟩
        case measure => simp [intOf]; omega
    · obtain rfl : k = n := by omega
      have HS := Lib.hid hS
      clear hS
      go_wp2
      go_end0
      exact ⟨rfl, vo', vb', by rw [HW.out]; exact HS.out⟩
set_option maxHeartbeats 8000000 in
set_option maxRecDepth 100000 in
/-- the search goes through all places that may be the next one -/
theorem c_impl_step_node1 (lo bo bu n : Nat) (D : Nat → Prop) (w0 : World) (vc vf vl : Value) (F : Far) (hF : RdFar D n w0 vc vf vl F) (hB : BdF F n) (d : Nat)
    (ih : ∀ (O : List Int) (s : Int) (vo vb : Value) (b : Option (List Int × Int)) (w : World), SrchI lo bo bu n D w0 vc vf vl w vo O vb b → PathO n O → O.length + d = n → (0 ≤ s ∧ s ≤ 1000000 * (O.length : Int)) → NnO b →
      Calls Try.prog 37 #[.pointer (some ⟨bo, 0, none⟩), .int .i64 s] w fun e w' => e = .returned (.tuple #[]) ∧ ∃ vo' vb', SrchI lo bo bu n D w0 vc vf vl w' vo' O vb' (walkO F d O s b))
    (O : List Int) (s : Int) (vo vb : Value) (b : Option (List Int × Int)) (w : World)
    (h : SrchI lo bo bu n D w0 vc vf vl w vo O vb b) (hO : PathO n O) (hl : O.length + (d + 1) = n) (hs : 0 ≤ s ∧ s ≤ 1000000 * (O.length : Int)) (hb : NnO b) (hcut : cutO b s = false) (hP0 : ∃ p, b = some p ∧ s < p.2) :
    Calls Try.prog 37 #[.pointer (some ⟨bo, 0, none⟩), .int .i64 s] w fun e w' => e = .returned (.tuple #[]) ∧ ∃ vo' vb', SrchI lo bo bu n D w0 vc vf vl w' vo' O vb' (walkO F (d + 1) O s b) := by
  have hn := hB.hn
  have HW := Lib.hid (walkO_succ F d O s b hcut)
  rw [hB.hf] at HW
  have HFN := Lib.hid (foldO_nn hB hl hs hb)
  have c0 := h.m.c0
  have c6 := h.m.c6
  have hR := hF.upd h.m.up
  obtain ⟨bf, of, cf, evf, -⟩ := hR.cc
  rw [evf] at c0
  obtain ⟨ao, cap, hvo, -, -⟩ := h.m.ow.rd
  have co := h.m.co
  rw [hvo] at co
  have HH := Lib.hid h
  have hln : O.length < n := by omega
  have hl2 : (O ++ [(0 : Int)]).length + d = n := by rw [List.length_append, List.length_singleton]; omega
  have hs0 := hs.1
  have hs1 : s ≤ 7000000 := by omega
  have hn1 := hn.1
  have hn2 := hn.2
  have hlm : O.length ≤ 8 := by omega
  have hdec2 : ((O.length : Int) == (n : Int)) = false := by rw [beq_eq_false_iff_ne]; omega
  have c5 := h.m.c5
  have hbn := h.bn
  have hbs := h.bs
  clear h hR hb hcut hvo evf
  first
    | (have hvb := hbn hP0; rw [hvb] at c5; clear c6)
    | (obtain ⟨p, hp1, hp2⟩ := hP0; obtain ⟨ab, nb, cb, hvb⟩ := hbs p hp1; rw [hvb] at c5; obtain ⟨P, HP⟩ : ∃ P, Hid (lstO 0 b = P) := ⟨_, rfl⟩; rw [HP.out] at c6; have hpe : p.2 = P := (by have h9 := HP.out; simpa [hp1, lstO] using h9); have hdec : decide (P ≤ s) = false := (by rw [decide_eq_false_iff_not]; omega); clear hpe hp2 hp1 hvb)
  clear hbn hbs
  go_enter Try.func37, Try.ntmps37
  go_wp2_with fail
  go_loopw [79] (fun kv wr => ∃ k : Nat, k ≤ n ∧ kv = .int .i64 k ∧ ∃ vo' vb', SrchI lo bo bu n D w0 vc vf vl wr vo' O vb' (foldO F d O s b k)) (fun kv _ => n - (intOf kv).toNat)
  case atStart => exact ⟨0, by omega, rfl, vo, vb, HH.out⟩
  case round =>
    obtain ⟨k, hk, rfl, vo', vb', hS⟩ := hrel
    by_cases hlt : k < n
    · have cu := hS.m.cu
      have us := (hS.m.us k hlt).1
      have hk0 : (0 : Int) ≤ (k : Int) := by omega
      have hk1 : (k : Int) < (n : Int) := by omega
      cases hm : memO O k
      · have hmo : Hid ((k : Int) ∉ O) := by unfold Hid; simpa [memO] using hm
        have HR : Hid (foldO F d O s b (k + 1) = walkO F d (O ++ [(k : Int)]) (s + costO F O k) (foldO F d O s b k)) := by unfold Hid; rw [foldO_succ]; unfold roundO; rw [if_neg hmo.out]
        have hnb := HFN.out k
        obtain ⟨b', Hb'⟩ : ∃ b', Hid (foldO F d O s b k = b') := ⟨_, rfl⟩
        rw [Hb'.out] at hS HR hnb
        rw [hm] at us
        have hC := hB.hc O k
        have HC2 : Hid (costO F O k = if O = [] then F.first.getD k 0 else (F.costs.getD (lastI O) []).getD k 0) := rfl
        obtain ⟨C, HC⟩ : ∃ C, Hid (costO F O k = C) := ⟨_, rfl⟩
        rw [HC.out] at hC HR HC2
        have hC0 := hC.1
        have hC1 := hC.2
        have hl2 : (O ++ [(k : Int)]).length + d = n := by rw [List.length_append, List.length_singleton]; omega
        have hsC : 0 ≤ s + C ∧ s + C ≤ 1000000 * ((O ++ [(k : Int)]).length : Int) := by rw [List.length_append, List.length_singleton]; omega
        have HN := Lib.hid hnb
        have hR := hF.upd hS.m.up
        obtain ⟨bf2, of2, cf2, evf2, df2, xf0⟩ := hR.ff
        have xf := xf0 k hlt
        clear xf0
        have hne1 := hS.m.ne
        have hne2 : bu ≠ bo := fun e => hne1 e.symm
        have c1 := hS.m.c1
        rw [evf2] at c1
        have co := hS.m.co
        by_cases hne : O = []
        · obtain ⟨ao', cap', rfl, -, -⟩ := hS.m.ow.rd
          have hzl : ¬ (0 : Int) < (O.length : Int) := by rw [hne]; simp
          have hx : F.first.getD k 0 = C := by have := HC2.out; rw [if_pos hne] at this; exact this.symm
          rw [hx] at xf
          have HNE := Lib.hid hne
          have HMM := Lib.hid hm
          clear hne hx hR hC hn hm hk0 hk1
          clear hnb
          have hnb := HN.out
          have fu := (hS.m.us k hlt).2
          have fo := hS.m.fo
          have HD := Lib.hid (hS.below (Below.refl _ _))
          have hlo1 : lo ≤ wr.heap.size := by have h1 := hS.m.up.size; have h2 := hS.m.hlo; omega
          have hlo1 : lo ≤ (wr).heap.size := by exact hlo1
          have HS := Lib.hid hS
          have cod : (wr).drew.cell? ⟨bo, 3, none⟩ = some (.slice ao' O.length cap') := co
          have cud : (wr).drew.cell? ⟨bo, 4, none⟩ = some (.slice (some ⟨bu, 0, none⟩) n n) := cu
          have coa : ∀ ob, (wr.alloc ob).drew.cell? ⟨bo, 3, none⟩ = some (.slice ao' O.length cap') := fun ob => cellB (((Below.refl _ _).al _).dr) co
          have cua : ∀ ob, (wr.alloc ob).drew.cell? ⟨bo, 4, none⟩ = some (.slice (some ⟨bu, 0, none⟩) n n) := fun ob => cellB (((Below.refl _ _).al _).dr) cu
          have hk0 : (0 : Int) ≤ (k : Int) := by omega
          have hk1 : (k : Int) < (n : Int) := by omega
          clear hS
          go_wp2_with fail
          
          refine wp_region_noPanic ?_; refine wp_region_L (S := untilL 12 14 (fun w' => w'.cell? ⟨bo, 3, none⟩ = some (.slice ao' O.length cap')) (fun w' => w'.cell? ⟨bo, 4, none⟩ = some (.slice (some ⟨bu, 0, none⟩) n n))) (by kernel_rfl) ?_
          (refine wpAnyL_take (S0 := (fun _ => True)) (i := 0) (q := 1) (v := ?lv59) rfl rfl (by kernel_rfl) (by kernel_rfl) (by kernel_rfl) (by kernel_rfl) (by kernel_rfl) (fun _ _ _ h => h) (fun _ _ _ _ => True.intro) (untilL_set (by decide) (by decide)) (Or.inl ⟨by rfl, ?lhy59⟩) ⟨fun _ => cod, fun _ => cud⟩ ?lrest59; case lhy59 => (intro w hSw; (try dsimp only at hSw); go_simp; (try with_reducible rfl)); (try simp only [Act.put, List.getElem_toArray, List.getElem_cons_zero, List.getElem_cons_succ, List.setIfInBounds_toArray, List.set_cons_zero, List.set_cons_succ])); (refine wpAnyL_take (S0 := (fun _ => True)) (i := 1) (q := 2) (v := ?lv60) rfl rfl (by kernel_rfl) (by kernel_rfl) (by kernel_rfl) (by kernel_rfl) (by kernel_rfl) (fun _ _ _ h => h) (fun _ _ _ _ => True.intro) (untilL_set (by decide) (by decide)) (Or.inl ⟨by rfl, ?lhy60⟩) ⟨fun _ => cod, fun _ => cud⟩ ?lrest60; case lhy60 => (intro w hSw; (try dsimp only at hSw); go_simp; (try with_reducible rfl)); (try simp only [Act.put, List.getElem_toArray, List.getElem_cons_zero, List.getElem_cons_succ, List.setIfInBounds_toArray, List.set_cons_zero, List.set_cons_succ])); (refine wpAnyL_take (S0 := (fun _ => True)) (i := 2) (q := 3) (v := ?lv61) rfl rfl (by kernel_rfl) (by kernel_rfl) (by kernel_rfl) (by kernel_rfl) (by kernel_rfl) (fun _ _ _ h => h) (fun _ _ _ _ => True.intro) (untilL_set (by decide) (by decide)) (Or.inl ⟨by rfl, ?lhy61⟩) ⟨fun _ => cod, fun _ => cud⟩ ?lrest61; case lhy61 => (intro w hSw; (try dsimp only at hSw); go_simp; (try with_reducible rfl)); (try simp only [Act.put, List.getElem_toArray, List.getElem_cons_zero, List.getElem_cons_succ, List.setIfInBounds_toArray, List.set_cons_zero, List.set_cons_succ])); (refine wpAnyL_take (S0 := (fun w' => w'.cell? ⟨bo, 4, none⟩ = some (.slice (some ⟨bu, 0, none⟩) n n))) (i := 3) (q := 14) (v := ?lv62) rfl rfl (by kernel_rfl) (by kernel_rfl) (by kernel_rfl) (by kernel_rfl) (by kernel_rfl) (fun _ _ _ h => h) (fun _ _ hq hS => hS.2 hq) (untilL_set (by decide) (by decide)) (Or.inl ⟨by rfl, ?lhy62⟩) ⟨fun _ => cod, fun _ => cud⟩ ?lrest62; case lhy62 => (intro w hSw; (try dsimp only at hSw); go_simp; (try with_reducible rfl)); (try simp only [Act.put, List.getElem_toArray, List.getElem_cons_zero, List.getElem_cons_succ, List.setIfInBounds_toArray, List.set_cons_zero, List.set_cons_succ])); (refine wpAnyL_take (S0 := (fun _ => True)) (i := 4) (q := 13) (v := ?lv63) rfl rfl (by kernel_rfl) (by kernel_rfl) (by kernel_rfl) (by kernel_rfl) (by kernel_rfl) (fun _ _ _ h => h) (fun _ _ _ _ => True.intro) (untilL_set (by decide) (by decide)) (Or.inl ⟨by rfl, ?lhy63⟩) ⟨fun _ => cod, fun _ => cud⟩ ?lrest63; case lhy63 => (intro w hSw; (try dsimp only at hSw); go_simp; (try with_reducible rfl)); (try simp only [Act.put, List.getElem_toArray, List.getElem_cons_zero, List.getElem_cons_succ, List.setIfInBounds_toArray, List.set_cons_zero, List.set_cons_succ])); (refine wpAnyL_take (S0 := (fun _ => True)) (i := 5) (q := 15) (v := ?lv64) rfl rfl (by kernel_rfl) (by kernel_rfl) (by kernel_rfl) (by kernel_rfl) (by kernel_rfl) (fun _ _ _ h => h) (fun _ _ _ _ => True.intro) (untilL_set (by decide) (by decide)) (Or.inl ⟨by rfl, ?lhy64⟩) ⟨fun _ => cod, fun _ => cud⟩ ?lrest64; case lhy64 => (intro w hSw; (try dsimp only at hSw); go_simp; (try with_reducible rfl)); (try simp only [Act.put, List.getElem_toArray, List.getElem_cons_zero, List.getElem_cons_succ, List.setIfInBounds_toArray, List.set_cons_zero, List.set_cons_succ])); (refine wpAnyL_take (S0 := (fun _ => True)) (i := 6) (q := 7) (v := ?lv65) rfl rfl (by kernel_rfl) (by kernel_rfl) (by kernel_rfl) (by kernel_rfl) (by kernel_rfl) (fun _ _ _ h => h) (fun _ _ _ _ => True.intro) (untilL_set (by decide) (by decide)) (Or.inl ⟨by rfl, ?lhy65⟩) ⟨fun _ => cod, fun _ => cud⟩ ?lrest65; case lhy65 => (intro w hSw; (try dsimp only at hSw); go_simp; (try with_reducible rfl)); (try simp only [Act.put, List.getElem_toArray, List.getElem_cons_zero, List.getElem_cons_succ, List.setIfInBounds_toArray, List.set_cons_zero, List.set_cons_succ])); (refine wpAnyL_take (S0 := (fun _ => True)) (i := 7) (q := 8) (v := ?lv66) rfl rfl (by kernel_rfl) (by kernel_rfl) (by kernel_rfl) (by kernel_rfl) (by kernel_rfl) (fun _ _ _ h => h) (fun _ _ _ _ => True.intro) (untilL_set (by decide) (by decide)) (Or.inl ⟨by rfl, ?lhy66⟩) ⟨fun _ => cod, fun _ => cud⟩ ?lrest66; case lhy66 => (intro w hSw; (try dsimp only at hSw); go_simp; (try with_reducible rfl)); (try simp only [Act.put, List.getElem_toArray, List.getElem_cons_zero, List.getElem_cons_succ, List.setIfInBounds_toArray, List.set_cons_zero, List.set_cons_succ])); (refine wpAnyL_take (S0 := (fun _ => True)) (i := 8) (q := 9) (v := ?lv67) rfl rfl (by kernel_rfl) (by kernel_rfl) (by kernel_rfl) (by kernel_rfl) (by kernel_rfl) (fun _ _ _ h => h) (fun _ _ _ _ => True.intro) (untilL_set (by decide) (by decide)) (Or.inl ⟨by rfl, ?lhy67⟩) ⟨fun _ => cod, fun _ => cud⟩ ?lrest67; case lhy67 => (intro w hSw; (try dsimp only at hSw); go_simp; (try with_reducible rfl)); (try simp only [Act.put, List.getElem_toArray, List.getElem_cons_zero, List.getElem_cons_succ, List.setIfInBounds_toArray, List.set_cons_zero, List.set_cons_succ])); (refine wpAnyL_take (S0 := (fun w' => w'.cell? ⟨bo, 3, none⟩ = some (.slice ao' O.length cap'))) (i := 9) (q := 12) (v := ?lv68) rfl rfl (by kernel_rfl) (by kernel_rfl) (by kernel_rfl) (by kernel_rfl) (by kernel_rfl) (fun _ _ _ h => h) (fun _ _ hq hS => hS.1 hq) (untilL_set (by decide) (by decide)) (Or.inl ⟨by rfl, ?lhy68⟩) ⟨fun _ => cod, fun _ => cud⟩ ?lrest68; case lhy68 => (intro w hSw; (try dsimp only at hSw); go_simp; (try with_reducible rfl)); (try simp only [Act.put, List.getElem_toArray, List.getElem_cons_zero, List.getElem_cons_succ, List.setIfInBounds_toArray, List.set_cons_zero, List.set_cons_succ])); (refine wpAnyL_take (S0 := (fun _ => True)) (i := 10) (q := 11) (v := ?lv69) rfl rfl (by kernel_rfl) (by kernel_rfl) (by kernel_rfl) (by kernel_rfl) (by kernel_rfl) (fun _ _ _ h => h) (fun _ _ _ _ => True.intro) (untilL_set (by decide) (by decide)) (Or.inl ⟨by rfl, ?lhy69⟩) ⟨fun _ => cod, fun _ => cud⟩ ?lrest69; case lhy69 => (intro w hSw; (try dsimp only at hSw); go_simp; (try with_reducible rfl)); (try simp only [Act.put, List.getElem_toArray, List.getElem_cons_zero, List.getElem_cons_succ, List.setIfInBounds_toArray, List.set_cons_zero, List.set_cons_succ]))
          refine wpAnyL_ready (rs := [11]) (by kernel_rfl) (by simp) ?_; refine AllReadyL.cons (i := 11) rfl (fun K hK => ?_) AllReadyL.nil
          go_simp
          refine hK.out _ _ ⟨(fun _ => coa _), (fun _ => cua _)⟩ (fun hHeld => ?_); clear hK K; (try simp only [Act.put, List.getElem_toArray, List.getElem_cons_zero, List.getElem_cons_succ, List.setIfInBounds_toArray, List.set_cons_zero, List.set_cons_succ])
          refine wpAnyL_ready (rs := [12]) (by kernel_rfl) (by simp) ?_; refine AllReadyL.cons (i := 12) rfl (fun K hK => ?_) AllReadyL.nil
          refine step_push_i rfl _ _ _ rfl Try.underlying28 infoI lo _ O (k : Int) (wr).heap.size _ rfl rfl ?_ (by exact (HS.out.m.below (((Below.refl _ _).al _).dr)).ow) (by omega) (by show lo ≤ (wr.alloc _).heap.size; rw [World.size_alloc]; exact Nat.le_succ_of_le hlo1) ?_
          · exact World.cell?_alloc_at _ _ _ _ rfl
          intro v2 w2 ho2 hg2 hat2 hs2
          have M2 := (HS.out.m.below (((Below.refl _ _).al _).dr)).grow ho2 hg2 (by
            rcases hat2 with e | e
            · exact Or.inl e
            · refine Or.inr (fun q hq => ?_)
              rw [e] at hq
              simp only [Option.some.injEq] at hq
              exact Nat.le_of_eq hq)
          rcases ho2.shape with ⟨-, hnil⟩ | ⟨g2, cap2, rfl, -⟩
          · exact absurd hnil (by simp)
          have hlen4 : (O ++ [(k : Int)]).length = O.length + 1 := by simp
          rw [hlen4] at M2
          have HL4 := Lib.hid hlen4
          clear hlen4 hs2 hat2 hg2 ho2 hlo1 coa cua
          have cu2 := M2.cu
          have us2 := (M2.us k hlt).1
          have fu2 := (M2.us k hlt).2
          have co2 := M2.co
          have fo2 := M2.fo
          have M3 := (M2.setUsed k hlt true).putO (by decide) (by decide) (.slice (some ⟨g2, 0, none⟩) (O.length + 1) cap2)
          have H3 : SrchI lo bo bu n D w0 vc vf vl _ _ (O ++ [(k : Int)]) vb' b' := ⟨M3.fun (fun j hj => (memO_snoc O k j).symm), HS.out.bn, HS.out.bs⟩
          have H3 := Lib.hid H3
          clear M2 M3 co cu us fu cod cud
          
          refine hK.out _ _ ⟨(fun h => Bool.noConfusion (show true = false from h)), (fun _ => cu2)⟩ (fun hHeld => ?_); clear hK K; (try simp only [Act.put, List.getElem_toArray, List.getElem_cons_zero, List.getElem_cons_succ, List.setIfInBounds_toArray, List.set_cons_zero, List.set_cons_succ])
          
          (refine wpAnyL_take (S0 := (fun _ => True)) (i := 13) (q := 14) (v := ?lv70) rfl rfl (by kernel_rfl) (by kernel_rfl) (by kernel_rfl) (by kernel_rfl) (by kernel_rfl) (fun _ _ _ h => h) (fun _ _ _ _ => True.intro) (untilL_set (by decide) (by decide)) (Or.inl ⟨by rfl, ?lhy70⟩) ⟨(fun h => Bool.noConfusion (show true = false from h)), fun _ => cu2⟩ ?lrest70; case lhy70 => (intro w hSw; (try dsimp only at hSw); go_simp; (try with_reducible rfl)); (try simp only [Act.put, List.getElem_toArray, List.getElem_cons_zero, List.getElem_cons_succ, List.setIfInBounds_toArray, List.set_cons_zero, List.set_cons_succ]))
          refine wpAnyL_ready (rs := [14]) (by kernel_rfl) (by simp) ?_; refine AllReadyL.cons (i := 14) rfl (fun K hK => ?_) AllReadyL.nil
          go_simp
          refine hK.out _ _ ⟨(fun h => Bool.noConfusion (show true = false from h)), (fun h => Bool.noConfusion (show true = false from h))⟩ (fun hHeld => ?_); clear hK K; (try simp only [Act.put, List.getElem_toArray, List.getElem_cons_zero, List.getElem_cons_succ, List.setIfInBounds_toArray, List.set_cons_zero, List.set_cons_succ])
          (refine wpAnyL_take (S0 := (fun _ => True)) (i := 15) (q := 16) (v := ?lv71) rfl rfl (by kernel_rfl) (by kernel_rfl) (by kernel_rfl) (by kernel_rfl) (by kernel_rfl) (fun _ _ _ h => h) (fun _ _ _ _ => True.intro) (untilL_set (by decide) (by decide)) (Or.inl ⟨by rfl, ?lhy71⟩) ⟨(fun h => Bool.noConfusion (show true = false from h)), (fun h => Bool.noConfusion (show true = false from h))⟩ ?lrest71; case lhy71 => (intro w hSw; (try dsimp only at hSw); go_simp; (try with_reducible rfl)); (try simp only [Act.put, List.getElem_toArray, List.getElem_cons_zero, List.getElem_cons_succ, List.setIfInBounds_toArray, List.set_cons_zero, List.set_cons_succ])); (refine wpAnyL_take (S0 := (fun _ => True)) (i := 16) (q := 17) (v := ?lv72) rfl rfl (by kernel_rfl) (by kernel_rfl) (by kernel_rfl) (by kernel_rfl) (by kernel_rfl) (fun _ _ _ h => h) (fun _ _ _ _ => True.intro) (untilL_set (by decide) (by decide)) (Or.inl ⟨by rfl, ?lhy72⟩) ⟨(fun h => Bool.noConfusion (show true = false from h)), (fun h => Bool.noConfusion (show true = false from h))⟩ ?lrest72; case lhy72 => (intro w hSw; (try dsimp only at hSw); go_simp; (try with_reducible rfl)); (try simp only [Act.put, List.getElem_toArray, List.getElem_cons_zero, List.getElem_cons_succ, List.setIfInBounds_toArray, List.set_cons_zero, List.set_cons_succ]))
          refine wpAnyL_ready (rs := [17]) (by kernel_rfl) (by simp) ?_; refine AllReadyL.cons (i := 17) rfl (fun K hK => ?_) AllReadyL.nil
          go_simp
          refine hK.out _ _ ⟨(fun h => Bool.noConfusion (show true = false from h)), (fun h => Bool.noConfusion (show true = false from h))⟩ (fun hHeld => ?_); clear hK K; (try simp only [Act.put, List.getElem_toArray, List.getElem_cons_zero, List.getElem_cons_succ, List.setIfInBounds_toArray, List.set_cons_zero, List.set_cons_succ])
          refine wpAnyL_done (by kernel_rfl) ?_ _; refine NoPanic.normal ?_
          go_wp2_with fail
          refine (ih _ _ _ _ _ _ H3.out (hO.snoc hlt hmo.out) hl2 hsC hnb).mono ?_; rintro e w4 ⟨rfl, vo4, vb4, h4⟩
          rw [← HR.out] at h4
          rcases h4.m.ow.shape with ⟨-, hnil⟩ | ⟨g4, cap4, rfl, -, -, hcap4, hml4, -⟩
          · exact absurd hnil (by simp)
          have HT : Hid ((O ++ [(k : Int)]).take O.length = O) := by unfold Hid; simp
          have co4 := h4.m.co
          have fo4 := h4.m.fo
          have cu4 := h4.m.cu
          have us4 := (h4.m.us k hlt).1
          have fu4 := (h4.m.us k hlt).2
          rw [HL4.out] at co4 hcap4
          have co4d : w4.drew.cell? ⟨bo, 3, none⟩ = some (.slice (some ⟨g4, 0, none⟩) (O.length + 1) cap4) := co4
          have cu4d : w4.drew.cell? ⟨bo, 4, none⟩ = some (.slice (some ⟨bu, 0, none⟩) n n) := cu4
          have M5 := (((h4.m.setUsed k hlt false).short O.length (by rw [HL4.out]; omega)).putO (by decide) (by decide) (.slice (some ⟨g4, 0, none⟩) O.length cap4)).below ((Below.refl _ _).dr)
          rw [HT.out] at M5
          have H4 := Lib.hid h4
          have hm0 : (0 : Int) ≤ (O.length : Int) := by omega
          have hm2 : (O.length : Int) ≤ (cap4 : Int) := by omega
          unfold maxLen at hml4
          have hmw : IntKind.i64.wrap (O.length : Int) = (O.length : Int) := wraps_i64 _ hm0 (by omega)
          have H6 : SrchI lo bo bu n D w0 vc vf vl _ _ O vb4 (foldO F d O s b (k + 1)) := ⟨M5.fun (fun j hj => memO_back HMM.out j), H4.out.bn, H4.out.bs⟩
          have H6 := Lib.hid H6
          clear M5 h4
          go_wp2_with fail
          
          refine wp_region_noPanic ?_; refine wp_region_L (S := untilL 13 13 (fun w' => w'.cell? ⟨bo, 3, none⟩ = some (.slice (some ⟨g4, 0, none⟩) (O.length + 1) cap4)) (fun w' => w'.cell? ⟨bo, 4, none⟩ = some (.slice (some ⟨bu, 0, none⟩) n n))) (by kernel_rfl) ?_
          (refine wpAnyL_take (S0 := (fun _ => True)) (i := 0) (q := 1) (v := ?lv73) rfl rfl (by kernel_rfl) (by kernel_rfl) (by kernel_rfl) (by kernel_rfl) (by kernel_rfl) (fun _ _ _ h => h) (fun _ _ _ _ => True.intro) (untilL_set (by decide) (by decide)) (Or.inl ⟨by rfl, ?lhy73⟩) ⟨fun _ => co4d, fun _ => cu4d⟩ ?lrest73; case lhy73 => (intro w hSw; (try dsimp only at hSw); go_simp; (try with_reducible rfl)); (try simp only [Act.put, List.getElem_toArray, List.getElem_cons_zero, List.getElem_cons_succ, List.setIfInBounds_toArray, List.set_cons_zero, List.set_cons_succ])); (refine wpAnyL_take (S0 := (fun _ => True)) (i := 1) (q := 2) (v := ?lv74) rfl rfl (by kernel_rfl) (by kernel_rfl) (by kernel_rfl) (by kernel_rfl) (by kernel_rfl) (fun _ _ _ h => h) (fun _ _ _ _ => True.intro) (untilL_set (by decide) (by decide)) (Or.inl ⟨by rfl, ?lhy74⟩) ⟨fun _ => co4d, fun _ => cu4d⟩ ?lrest74; case lhy74 => (intro w hSw; (try dsimp only at hSw); go_simp; (try with_reducible rfl)); (try simp only [Act.put, List.getElem_toArray, List.getElem_cons_zero, List.getElem_cons_succ, List.setIfInBounds_toArray, List.set_cons_zero, List.set_cons_succ])); (refine wpAnyL_take (S0 := (fun _ => True)) (i := 2) (q := 3) (v := ?lv75) rfl rfl (by kernel_rfl) (by kernel_rfl) (by kernel_rfl) (by kernel_rfl) (by kernel_rfl) (fun _ _ _ h => h) (fun _ _ _ _ => True.intro) (untilL_set (by decide) (by decide)) (Or.inl ⟨by rfl, ?lhy75⟩) ⟨fun _ => co4d, fun _ => cu4d⟩ ?lrest75; case lhy75 => (intro w hSw; (try dsimp only at hSw); go_simp; (try with_reducible rfl)); (try simp only [Act.put, List.getElem_toArray, List.getElem_cons_zero, List.getElem_cons_succ, List.setIfInBounds_toArray, List.set_cons_zero, List.set_cons_succ])); (refine wpAnyL_take (S0 := (fun w' => w'.cell? ⟨bo, 4, none⟩ = some (.slice (some ⟨bu, 0, none⟩) n n))) (i := 3) (q := 13) (v := ?lv76) rfl rfl (by kernel_rfl) (by kernel_rfl) (by kernel_rfl) (by kernel_rfl) (by kernel_rfl) (fun _ _ _ h => h) (fun _ _ hq hS => hS.2 hq) (untilL_set (by decide) (by decide)) (Or.inl ⟨by rfl, ?lhy76⟩) ⟨fun _ => co4d, fun _ => cu4d⟩ ?lrest76; case lhy76 => (intro w hSw; (try dsimp only at hSw); go_simp; (try with_reducible rfl)); (try simp only [Act.put, List.getElem_toArray, List.getElem_cons_zero, List.getElem_cons_succ, List.setIfInBounds_toArray, List.set_cons_zero, List.set_cons_succ])); (refine wpAnyL_take (S0 := (fun _ => True)) (i := 4) (q := 12) (v := ?lv77) rfl rfl (by kernel_rfl) (by kernel_rfl) (by kernel_rfl) (by kernel_rfl) (by kernel_rfl) (fun _ _ _ h => h) (fun _ _ _ _ => True.intro) (untilL_set (by decide) (by decide)) (Or.inl ⟨by rfl, ?lhy77⟩) ⟨fun _ => co4d, fun _ => cu4d⟩ ?lrest77; case lhy77 => (intro w hSw; (try dsimp only at hSw); go_simp; (try with_reducible rfl)); (try simp only [Act.put, List.getElem_toArray, List.getElem_cons_zero, List.getElem_cons_succ, List.setIfInBounds_toArray, List.set_cons_zero, List.set_cons_succ])); (refine wpAnyL_take (S0 := (fun _ => True)) (i := 5) (q := 14) (v := ?lv78) rfl rfl (by kernel_rfl) (by kernel_rfl) (by kernel_rfl) (by kernel_rfl) (by kernel_rfl) (fun _ _ _ h => h) (fun _ _ _ _ => True.intro) (untilL_set (by decide) (by decide)) (Or.inl ⟨by rfl, ?lhy78⟩) ⟨fun _ => co4d, fun _ => cu4d⟩ ?lrest78; case lhy78 => (intro w hSw; (try dsimp only at hSw); go_simp; (try with_reducible rfl)); (try simp only [Act.put, List.getElem_toArray, List.getElem_cons_zero, List.getElem_cons_succ, List.setIfInBounds_toArray, List.set_cons_zero, List.set_cons_succ])); (refine wpAnyL_take (S0 := (fun _ => True)) (i := 6) (q := 7) (v := ?lv79) rfl rfl (by kernel_rfl) (by kernel_rfl) (by kernel_rfl) (by kernel_rfl) (by kernel_rfl) (fun _ _ _ h => h) (fun _ _ _ _ => True.intro) (untilL_set (by decide) (by decide)) (Or.inl ⟨by rfl, ?lhy79⟩) ⟨fun _ => co4d, fun _ => cu4d⟩ ?lrest79; case lhy79 => (intro w hSw; (try dsimp only at hSw); go_simp; (try with_reducible rfl)); (try simp only [Act.put, List.getElem_toArray, List.getElem_cons_zero, List.getElem_cons_succ, List.setIfInBounds_toArray, List.set_cons_zero, List.set_cons_succ])); (refine wpAnyL_take (S0 := (fun _ => True)) (i := 7) (q := 8) (v := ?lv80) rfl rfl (by kernel_rfl) (by kernel_rfl) (by kernel_rfl) (by kernel_rfl) (by kernel_rfl) (fun _ _ _ h => h) (fun _ _ _ _ => True.intro) (untilL_set (by decide) (by decide)) (Or.inl ⟨by rfl, ?lhy80⟩) ⟨fun _ => co4d, fun _ => cu4d⟩ ?lrest80; case lhy80 => (intro w hSw; (try dsimp only at hSw); go_simp; (try with_reducible rfl)); (try simp only [Act.put, List.getElem_toArray, List.getElem_cons_zero, List.getElem_cons_succ, List.setIfInBounds_toArray, List.set_cons_zero, List.set_cons_succ])); (refine wpAnyL_take (S0 := (fun _ => True)) (i := 8) (q := 9) (v := ?lv81) rfl rfl (by kernel_rfl) (by kernel_rfl) (by kernel_rfl) (by kernel_rfl) (by kernel_rfl) (fun _ _ _ h => h) (fun _ _ _ _ => True.intro) (untilL_set (by decide) (by decide)) (Or.inl ⟨by rfl, ?lhy81⟩) ⟨fun _ => co4d, fun _ => cu4d⟩ ?lrest81; case lhy81 => (intro w hSw; (try dsimp only at hSw); go_simp; (try with_reducible rfl)); (try simp only [Act.put, List.getElem_toArray, List.getElem_cons_zero, List.getElem_cons_succ, List.setIfInBounds_toArray, List.set_cons_zero, List.set_cons_succ])); (refine wpAnyL_take (S0 := (fun w' => w'.cell? ⟨bo, 3, none⟩ = some (.slice (some ⟨g4, 0, none⟩) (O.length + 1) cap4))) (i := 9) (q := 13) (v := ?lv82) rfl rfl (by kernel_rfl) (by kernel_rfl) (by kernel_rfl) (by kernel_rfl) (by kernel_rfl) (fun _ _ _ h => h) (fun _ _ hq hS => hS.1 hq) (untilL_set (by decide) (by decide)) (Or.inl ⟨by rfl, ?lhy82⟩) ⟨fun _ => co4d, fun _ => cu4d⟩ ?lrest82; case lhy82 => (intro w hSw; (try dsimp only at hSw); go_simp; (try with_reducible rfl)); (try simp only [Act.put, List.getElem_toArray, List.getElem_cons_zero, List.getElem_cons_succ, List.setIfInBounds_toArray, List.set_cons_zero, List.set_cons_succ])); (refine wpAnyL_take (S0 := (fun _ => True)) (i := 10) (q := 11) (v := ?lv83) rfl rfl (by kernel_rfl) (by kernel_rfl) (by kernel_rfl) (by kernel_rfl) (by kernel_rfl) (fun _ _ _ h => h) (fun _ _ _ _ => True.intro) (untilL_set (by decide) (by decide)) (Or.inl ⟨by rfl, ?lhy83⟩) ⟨fun _ => co4d, fun _ => cu4d⟩ ?lrest83; case lhy83 => (intro w hSw; (try dsimp only at hSw); go_simp; (try with_reducible rfl)); (try simp only [Act.put, List.getElem_toArray, List.getElem_cons_zero, List.getElem_cons_succ, List.setIfInBounds_toArray, List.set_cons_zero, List.set_cons_succ])); (refine wpAnyL_take (S0 := (fun _ => True)) (i := 11) (q := 16) (v := ?lv84) rfl rfl (by kernel_rfl) (by kernel_rfl) (by kernel_rfl) (by kernel_rfl) (by kernel_rfl) (fun _ _ _ h => h) (fun _ _ _ _ => True.intro) (untilL_set (by decide) (by decide)) (Or.inl ⟨by rfl, ?lhy84⟩) ⟨fun _ => co4d, fun _ => cu4d⟩ ?lrest84; case lhy84 => (intro w hSw; (try dsimp only at hSw); go_simp; (try with_reducible rfl)); (try simp only [Act.put, List.getElem_toArray, List.getElem_cons_zero, List.getElem_cons_succ, List.setIfInBounds_toArray, List.set_cons_zero, List.set_cons_succ])); (refine wpAnyL_take (S0 := (fun _ => True)) (i := 12) (q := 13) (v := ?lv85) rfl rfl (by kernel_rfl) (by kernel_rfl) (by kernel_rfl) (by kernel_rfl) (by kernel_rfl) (fun _ _ _ h => h) (fun _ _ _ _ => True.intro) (untilL_set (by decide) (by decide)) (Or.inl ⟨by rfl, ?lhy85⟩) ⟨fun _ => co4d, fun _ => cu4d⟩ ?lrest85; case lhy85 => (intro w hSw; (try dsimp only at hSw); go_simp; (try with_reducible rfl)); (try simp only [Act.put, List.getElem_toArray, List.getElem_cons_zero, List.getElem_cons_succ, List.setIfInBounds_toArray, List.set_cons_zero, List.set_cons_succ]))
          refine wpAnyL_ready (rs := [13]) (by kernel_rfl) (by simp) ?_; refine AllReadyL.cons (i := 13) rfl (fun K hK => ?_) AllReadyL.nil
          go_simp
          refine hK.out _ _ ⟨(fun h => Bool.noConfusion (show true = false from h)), (fun h => Bool.noConfusion (show true = false from h))⟩ (fun hHeld => ?_); clear hK K; (try simp only [Act.put, List.getElem_toArray, List.getElem_cons_zero, List.getElem_cons_succ, List.setIfInBounds_toArray, List.set_cons_zero, List.set_cons_succ])
          (refine wpAnyL_take (S0 := (fun _ => True)) (i := 14) (q := 15) (v := ?lv86) rfl rfl (by kernel_rfl) (by kernel_rfl) (by kernel_rfl) (by kernel_rfl) (by kernel_rfl) (fun _ _ _ h => h) (fun _ _ _ _ => True.intro) (untilL_set (by decide) (by decide)) (Or.inl ⟨by rfl, ?lhy86⟩) ⟨(fun h => Bool.noConfusion (show true = false from h)), (fun h => Bool.noConfusion (show true = false from h))⟩ ?lrest86; case lhy86 => (intro w hSw; (try dsimp only at hSw); go_simp; (try with_reducible rfl)); (try simp only [Act.put, List.getElem_toArray, List.getElem_cons_zero, List.getElem_cons_succ, List.setIfInBounds_toArray, List.set_cons_zero, List.set_cons_succ])); (refine wpAnyL_take (S0 := (fun _ => True)) (i := 15) (q := 16) (v := ?lv87) rfl rfl (by kernel_rfl) (by kernel_rfl) (by kernel_rfl) (by kernel_rfl) (by kernel_rfl) (fun _ _ _ h => h) (fun _ _ _ _ => True.intro) (untilL_set (by decide) (by decide)) (Or.inl ⟨by rfl, ?lhy87⟩) ⟨(fun h => Bool.noConfusion (show true = false from h)), (fun h => Bool.noConfusion (show true = false from h))⟩ ?lrest87; case lhy87 => (intro w hSw; (try dsimp only at hSw); go_simp; (try with_reducible rfl)); (try simp only [Act.put, List.getElem_toArray, List.getElem_cons_zero, List.getElem_cons_succ, List.setIfInBounds_toArray, List.set_cons_zero, List.set_cons_succ]))
          refine wpAnyL_ready (rs := [16]) (by kernel_rfl) (by simp) ?_; refine AllReadyL.cons (i := 16) rfl (fun K hK => ?_) AllReadyL.nil
          go_simp
          refine hK.out _ _ ⟨(fun h => Bool.noConfusion (show true = false from h)), (fun h => Bool.noConfusion (show true = false from h))⟩ (fun hHeld => ?_); clear hK K; (try simp only [Act.put, List.getElem_toArray, List.getElem_cons_zero, List.getElem_cons_succ, List.setIfInBounds_toArray, List.set_cons_zero, List.set_cons_succ])
          refine wpAnyL_done (by kernel_rfl) ?_ _; refine NoPanic.normal ?_
          go_wp2_with fail
          go_roundw
          case rel => exact ⟨k + 1, by omega, by go_num, _, _, H6.out⟩
          case measure => simp [intOf]; omega
        · rcases hS.m.ow.shape with ⟨-, hnil⟩ | ⟨g1, cap1, rfl, hg1, hg2, hcap1, hml1, hcr1, -⟩
          · exact absurd hnil hne
          have hzl : (0 : Int) < (O.length : Int) := by have := List.length_pos_iff.2 hne; omega
          obtain ⟨e1, e2⟩ := lastI_at hO hne
          have xo := hcr1 (O.length - 1) (by omega)
          rw [e1] at xo
          have hx : (F.costs.getD (lastI O) []).getD k 0 = C := by have := HC2.out; rw [if_neg hne] at this; exact this.symm
          obtain ⟨q, Hq⟩ : ∃ q, Hid (lastI O = q) := ⟨_, rfl⟩
          rw [Hq.out] at e2 xo hx
          obtain ⟨b0, o0, cp0, evc, hcc⟩ := hR.cc
          obtain ⟨bi, oi, ci, -, -, xc, xr0⟩ := hcc q e2
          have xr := xr0 k hlt
          rw [hx] at xr
          clear xr0 hcc hcr1
          have c0 := hS.m.c0
          rw [evc] at c0
          have HMM := Lib.hid hm
          have hq0 : (0 : Int) ≤ (q : Int) := by omega
          have hq1 : (q : Int) < (n : Int) := by omega
          have hin0 : (0 : Int) ≤ ((O.length - 1 : Nat) : Int) := by omega
          have hin1 : ((O.length - 1 : Nat) : Int) < (O.length : Int) := by omega
          clear hne hx hR hC hn hm e1 evc
          go_wp2_with fail
          go_quiet (fail)
          clear hnb
          have hnb := HN.out
          have fu := (hS.m.us k hlt).2
          have fo := hS.m.fo
          have HD := Lib.hid (hS.below ((Below.refl _ _).drN nq))
          have hlo1 : lo ≤ wr.heap.size := by have h1 := hS.m.up.size; have h2 := hS.m.hlo; omega
          have hlo1 : lo ≤ (wr.drewN nq).heap.size := by exact hlo1
          have HS := Lib.hid hS
          have cod : (wr.drewN nq).drew.cell? ⟨bo, 3, none⟩ = some (.slice (some ⟨g1, 0, none⟩) O.length cap1) := co
          have cud : (wr.drewN nq).drew.cell? ⟨bo, 4, none⟩ = some (.slice (some ⟨bu, 0, none⟩) n n) := cu
          have coa : ∀ ob, ((wr.alloc ob).drewN nq).drew.cell? ⟨bo, 3, none⟩ = some (.slice (some ⟨g1, 0, none⟩) O.length cap1) := fun ob => cellB ((((Below.refl _ _).al _).drN nq).dr) co
          have cua : ∀ ob, ((wr.alloc ob).drewN nq).drew.cell? ⟨bo, 4, none⟩ = some (.slice (some ⟨bu, 0, none⟩) n n) := fun ob => cellB ((((Below.refl _ _).al _).drN nq).dr) cu
          have hk0 : (0 : Int) ≤ (k : Int) := by omega
          have hk1 : (k : Int) < (n : Int) := by omega
          clear hS
          go_wp2_with fail
          
          refine wp_region_noPanic ?_; refine wp_region_L (S := untilL 12 14 (fun w' => w'.cell? ⟨bo, 3, none⟩ = some (.slice (some ⟨g1, 0, none⟩) O.length cap1)) (fun w' => w'.cell? ⟨bo, 4, none⟩ = some (.slice (some ⟨bu, 0, none⟩) n n))) (by kernel_rfl) ?_
          (refine wpAnyL_take (S0 := (fun _ => True)) (i := 0) (q := 1) (v := ?lv88) rfl rfl (by kernel_rfl) (by kernel_rfl) (by kernel_rfl) (by kernel_rfl) (by kernel_rfl) (fun _ _ _ h => h) (fun _ _ _ _ => True.intro) (untilL_set (by decide) (by decide)) (Or.inl ⟨by rfl, ?lhy88⟩) ⟨fun _ => cod, fun _ => cud⟩ ?lrest88; case lhy88 => (intro w hSw; (try dsimp only at hSw); go_simp; (try with_reducible rfl)); (try simp only [Act.put, List.getElem_toArray, List.getElem_cons_zero, List.getElem_cons_succ, List.setIfInBounds_toArray, List.set_cons_zero, List.set_cons_succ])); (refine wpAnyL_take (S0 := (fun _ => True)) (i := 1) (q := 2) (v := ?lv89) rfl rfl (by kernel_rfl) (by kernel_rfl) (by kernel_rfl) (by kernel_rfl) (by kernel_rfl) (fun _ _ _ h => h) (fun _ _ _ _ => True.intro) (untilL_set (by decide) (by decide)) (Or.inl ⟨by rfl, ?lhy89⟩) ⟨fun _ => cod, fun _ => cud⟩ ?lrest89; case lhy89 => (intro w hSw; (try dsimp only at hSw); go_simp; (try with_reducible rfl)); (try simp only [Act.put, List.getElem_toArray, List.getElem_cons_zero, List.getElem_cons_succ, List.setIfInBounds_toArray, List.set_cons_zero, List.set_cons_succ])); (refine wpAnyL_take (S0 := (fun _ => True)) (i := 2) (q := 3) (v := ?lv90) rfl rfl (by kernel_rfl) (by kernel_rfl) (by kernel_rfl) (by kernel_rfl) (by kernel_rfl) (fun _ _ _ h => h) (fun _ _ _ _ => True.intro) (untilL_set (by decide) (by decide)) (Or.inl ⟨by rfl, ?lhy90⟩) ⟨fun _ => cod, fun _ => cud⟩ ?lrest90; case lhy90 => (intro w hSw; (try dsimp only at hSw); go_simp; (try with_reducible rfl)); (try simp only [Act.put, List.getElem_toArray, List.getElem_cons_zero, List.getElem_cons_succ, List.setIfInBounds_toArray, List.set_cons_zero, List.set_cons_succ])); (refine wpAnyL_take (S0 := (fun w' => w'.cell? ⟨bo, 4, none⟩ = some (.slice (some ⟨bu, 0, none⟩) n n))) (i := 3) (q := 14) (v := ?lv91) rfl rfl (by kernel_rfl) (by kernel_rfl) (by kernel_rfl) (by kernel_rfl) (by kernel_rfl) (fun _ _ _ h => h) (fun _ _ hq hS => hS.2 hq) (untilL_set (by decide) (by decide)) (Or.inl ⟨by rfl, ?lhy91⟩) ⟨fun _ => cod, fun _ => cud⟩ ?lrest91; case lhy91 => (intro w hSw; (try dsimp only at hSw); go_simp; (try with_reducible rfl)); (try simp only [Act.put, List.getElem_toArray, List.getElem_cons_zero, List.getElem_cons_succ, List.setIfInBounds_toArray, List.set_cons_zero, List.set_cons_succ])); (refine wpAnyL_take (S0 := (fun _ => True)) (i := 4) (q := 13) (v := ?lv92) rfl rfl (by kernel_rfl) (by kernel_rfl) (by kernel_rfl) (by kernel_rfl) (by kernel_rfl) (fun _ _ _ h => h) (fun _ _ _ _ => True.intro) (untilL_set (by decide) (by decide)) (Or.inl ⟨by rfl, ?lhy92⟩) ⟨fun _ => cod, fun _ => cud⟩ ?lrest92; case lhy92 => (intro w hSw; (try dsimp only at hSw); go_simp; (try with_reducible rfl)); (try simp only [Act.put, List.getElem_toArray, List.getElem_cons_zero, List.getElem_cons_succ, List.setIfInBounds_toArray, List.set_cons_zero, List.set_cons_succ])); (refine wpAnyL_take (S0 := (fun _ => True)) (i := 5) (q := 15) (v := ?lv93) rfl rfl (by kernel_rfl) (by kernel_rfl) (by kernel_rfl) (by kernel_rfl) (by kernel_rfl) (fun _ _ _ h => h) (fun _ _ _ _ => True.intro) (untilL_set (by decide) (by decide)) (Or.inl ⟨by rfl, ?lhy93⟩) ⟨fun _ => cod, fun _ => cud⟩ ?lrest93; case lhy93 => (intro w hSw; (try dsimp only at hSw); go_simp; (try with_reducible rfl)); (try simp only [Act.put, List.getElem_toArray, List.getElem_cons_zero, List.getElem_cons_succ, List.setIfInBounds_toArray, List.set_cons_zero, List.set_cons_succ])); (refine wpAnyL_take (S0 := (fun _ => True)) (i := 6) (q := 7) (v := ?lv94) rfl rfl (by kernel_rfl) (by kernel_rfl) (by kernel_rfl) (by kernel_rfl) (by kernel_rfl) (fun _ _ _ h => h) (fun _ _ _ _ => True.intro) (untilL_set (by decide) (by decide)) (Or.inl ⟨by rfl, ?lhy94⟩) ⟨fun _ => cod, fun _ => cud⟩ ?lrest94; case lhy94 => (intro w hSw; (try dsimp only at hSw); go_simp; (try with_reducible rfl)); (try simp only [Act.put, List.getElem_toArray, List.getElem_cons_zero, List.getElem_cons_succ, List.setIfInBounds_toArray, List.set_cons_zero, List.set_cons_succ])); (refine wpAnyL_take (S0 := (fun _ => True)) (i := 7) (q := 8) (v := ?lv95) rfl rfl (by kernel_rfl) (by kernel_rfl) (by kernel_rfl) (by kernel_rfl) (by kernel_rfl) (fun _ _ _ h => h) (fun _ _ _ _ => True.intro) (untilL_set (by decide) (by decide)) (Or.inl ⟨by rfl, ?lhy95⟩) ⟨fun _ => cod, fun _ => cud⟩ ?lrest95; case lhy95 => (intro w hSw; (try dsimp only at hSw); go_simp; (try with_reducible rfl)); (try simp only [Act.put, List.getElem_toArray, List.getElem_cons_zero, List.getElem_cons_succ, List.setIfInBounds_toArray, List.set_cons_zero, List.set_cons_succ])); (refine wpAnyL_take (S0 := (fun _ => True)) (i := 8) (q := 9) (v := ?lv96) rfl rfl (by kernel_rfl) (by kernel_rfl) (by kernel_rfl) (by kernel_rfl) (by kernel_rfl) (fun _ _ _ h => h) (fun _ _ _ _ => True.intro) (untilL_set (by decide) (by decide)) (Or.inl ⟨by rfl, ?lhy96⟩) ⟨fun _ => cod, fun _ => cud⟩ ?lrest96; case lhy96 => (intro w hSw; (try dsimp only at hSw); go_simp; (try with_reducible rfl)); (try simp only [Act.put, List.getElem_toArray, List.getElem_cons_zero, List.getElem_cons_succ, List.setIfInBounds_toArray, List.set_cons_zero, List.set_cons_succ])); (refine wpAnyL_take (S0 := (fun w' => w'.cell? ⟨bo, 3, none⟩ = some (.slice (some ⟨g1, 0, none⟩) O.length cap1))) (i := 9) (q := 12) (v := ?lv97) rfl rfl (by kernel_rfl) (by kernel_rfl) (by kernel_rfl) (by kernel_rfl) (by kernel_rfl) (fun _ _ _ h => h) (fun _ _ hq hS => hS.1 hq) (untilL_set (by decide) (by decide)) (Or.inl ⟨by rfl, ?lhy97⟩) ⟨fun _ => cod, fun _ => cud⟩ ?lrest97; case lhy97 => (intro w hSw; (try dsimp only at hSw); go_simp; (try with_reducible rfl)); (try simp only [Act.put, List.getElem_toArray, List.getElem_cons_zero, List.getElem_cons_succ, List.setIfInBounds_toArray, List.set_cons_zero, List.set_cons_succ])); (refine wpAnyL_take (S0 := (fun _ => True)) (i := 10) (q := 11) (v := ?lv98) rfl rfl (by kernel_rfl) (by kernel_rfl) (by kernel_rfl) (by kernel_rfl) (by kernel_rfl) (fun _ _ _ h => h) (fun _ _ _ _ => True.intro) (untilL_set (by decide) (by decide)) (Or.inl ⟨by rfl, ?lhy98⟩) ⟨fun _ => cod, fun _ => cud⟩ ?lrest98; case lhy98 => (intro w hSw; (try dsimp only at hSw); go_simp; (try with_reducible rfl)); (try simp only [Act.put, List.getElem_toArray, List.getElem_cons_zero, List.getElem_cons_succ, List.setIfInBounds_toArray, List.set_cons_zero, List.set_cons_succ]))
          refine wpAnyL_ready (rs := [11]) (by kernel_rfl) (by simp) ?_; refine AllReadyL.cons (i := 11) rfl (fun K hK => ?_) AllReadyL.nil
          go_simp
          refine hK.out _ _ ⟨(fun _ => coa _), (fun _ => cua _)⟩ (fun hHeld => ?_); clear hK K; (try simp only [Act.put, List.getElem_toArray, List.getElem_cons_zero, List.getElem_cons_succ, List.setIfInBounds_toArray, List.set_cons_zero, List.set_cons_succ])
          refine wpAnyL_ready (rs := [12]) (by kernel_rfl) (by simp) ?_; refine AllReadyL.cons (i := 12) rfl (fun K hK => ?_) AllReadyL.nil
          refine step_push_i rfl _ _ _ rfl Try.underlying28 infoI lo _ O (k : Int) (wr.drewN nq).heap.size _ rfl rfl ?_ (by exact (HS.out.m.below ((((Below.refl _ _).al _).drN nq).dr)).ow) (by omega) (by show lo ≤ (wr.alloc _).heap.size; rw [World.size_alloc]; exact Nat.le_succ_of_le hlo1) ?_
          · exact World.cell?_alloc_at _ _ _ _ rfl
          intro v2 w2 ho2 hg2 hat2 hs2
          have M2 := (HS.out.m.below ((((Below.refl _ _).al _).drN nq).dr)).grow ho2 hg2 (by
            rcases hat2 with e | e
            · exact Or.inl e
            · refine Or.inr (fun q hq => ?_)
              rw [e] at hq
              simp only [Option.some.injEq] at hq
              exact Nat.le_of_eq hq)
          rcases ho2.shape with ⟨-, hnil⟩ | ⟨g2, cap2, rfl, -⟩
          · exact absurd hnil (by simp)
          have hlen4 : (O ++ [(k : Int)]).length = O.length + 1 := by simp
          rw [hlen4] at M2
          have HL4 := Lib.hid hlen4
          clear hlen4 hs2 hat2 hg2 ho2 hlo1 coa cua
          have cu2 := M2.cu
          have us2 := (M2.us k hlt).1
          have fu2 := (M2.us k hlt).2
          have co2 := M2.co
          have fo2 := M2.fo
          have M3 := (M2.setUsed k hlt true).putO (by decide) (by decide) (.slice (some ⟨g2, 0, none⟩) (O.length + 1) cap2)
          have H3 : SrchI lo bo bu n D w0 vc vf vl _ _ (O ++ [(k : Int)]) vb' b' := ⟨M3.fun (fun j hj => (memO_snoc O k j).symm), HS.out.bn, HS.out.bs⟩
          have H3 := Lib.hid H3
          clear M2 M3 co cu us fu cod cud
          
          refine hK.out _ _ ⟨(fun h => Bool.noConfusion (show true = false from h)), (fun _ => cu2)⟩ (fun hHeld => ?_); clear hK K; (try simp only [Act.put, List.getElem_toArray, List.getElem_cons_zero, List.getElem_cons_succ, List.setIfInBounds_toArray, List.set_cons_zero, List.set_cons_succ])
          
          (refine wpAnyL_take (S0 := (fun _ => True)) (i := 13) (q := 14) (v := ?lv99) rfl rfl (by kernel_rfl) (by kernel_rfl) (by kernel_rfl) (by kernel_rfl) (by kernel_rfl) (fun _ _ _ h => h) (fun _ _ _ _ => True.intro) (untilL_set (by decide) (by decide)) (Or.inl ⟨by rfl, ?lhy99⟩) ⟨(fun h => Bool.noConfusion (show true = false from h)), fun _ => cu2⟩ ?lrest99; case lhy99 => (intro w hSw; (try dsimp only at hSw); go_simp; (try with_reducible rfl)); (try simp only [Act.put, List.getElem_toArray, List.getElem_cons_zero, List.getElem_cons_succ, List.setIfInBounds_toArray, List.set_cons_zero, List.set_cons_succ]))
          refine wpAnyL_ready (rs := [14]) (by kernel_rfl) (by simp) ?_; refine AllReadyL.cons (i := 14) rfl (fun K hK => ?_) AllReadyL.nil
          go_simp
          refine hK.out _ _ ⟨(fun h => Bool.noConfusion (show true = false from h)), (fun h => Bool.noConfusion (show true = false from h))⟩ (fun hHeld => ?_); clear hK K; (try simp only [Act.put, List.getElem_toArray, List.getElem_cons_zero, List.getElem_cons_succ, List.setIfInBounds_toArray, List.set_cons_zero, List.set_cons_succ])
          (refine wpAnyL_take (S0 := (fun _ => True)) (i := 15) (q := 16) (v := ?lv100) rfl rfl (by kernel_rfl) (by kernel_rfl) (by kernel_rfl) (by kernel_rfl) (by kernel_rfl) (fun _ _ _ h => h) (fun _ _ _ _ => True.intro) (untilL_set (by decide) (by decide)) (Or.inl ⟨by rfl, ?lhy100⟩) ⟨(fun h => Bool.noConfusion (show true = false from h)), (fun h => Bool.noConfusion (show true = false from h))⟩ ?lrest100; case lhy100 => (intro w hSw; (try dsimp only at hSw); go_simp; (try with_reducible rfl)); (try simp only [Act.put, List.getElem_toArray, List.getElem_cons_zero, List.getElem_cons_succ, List.setIfInBounds_toArray, List.set_cons_zero, List.set_cons_succ])); (refine wpAnyL_take (S0 := (fun _ => True)) (i := 16) (q := 17) (v := ?lv101) rfl rfl (by kernel_rfl) (by kernel_rfl) (by kernel_rfl) (by kernel_rfl) (by kernel_rfl) (fun _ _ _ h => h) (fun _ _ _ _ => True.intro) (untilL_set (by decide) (by decide)) (Or.inl ⟨by rfl, ?lhy101⟩) ⟨(fun h => Bool.noConfusion (show true = false from h)), (fun h => Bool.noConfusion (show true = false from h))⟩ ?lrest101; case lhy101 => (intro w hSw; (try dsimp only at hSw); go_simp; (try with_reducible rfl)); (try simp only [Act.put, List.getElem_toArray, List.getElem_cons_zero, List.getElem_cons_succ, List.setIfInBounds_toArray, List.set_cons_zero, List.set_cons_succ]))
          refine wpAnyL_ready (rs := [17]) (by kernel_rfl) (by simp) ?_; refine AllReadyL.cons (i := 17) rfl (fun K hK => ?_) AllReadyL.nil
          go_simp
          refine hK.out _ _ ⟨(fun h => Bool.noConfusion (show true = false from h)), (fun h => Bool.noConfusion (show true = false from h))⟩ (fun hHeld => ?_); clear hK K; (try simp only [Act.put, List.getElem_toArray, List.getElem_cons_zero, List.getElem_cons_succ, List.setIfInBounds_toArray, List.set_cons_zero, List.set_cons_succ])
          refine wpAnyL_done (by kernel_rfl) ?_ _; refine NoPanic.normal ?_
          go_wp2_with fail
          refine (ih _ _ _ _ _ _ H3.out (hO.snoc hlt hmo.out) hl2 hsC hnb).mono ?_; rintro e w4 ⟨rfl, vo4, vb4, h4⟩
          rw [← HR.out] at h4
          rcases h4.m.ow.shape with ⟨-, hnil⟩ | ⟨g4, cap4, rfl, -, -, hcap4, hml4, -⟩
          · exact absurd hnil (by simp)
          have HT : Hid ((O ++ [(k : Int)]).take O.length = O) := by unfold Hid; simp
          have co4 := h4.m.co
          have fo4 := h4.m.fo
          have cu4 := h4.m.cu
          have us4 := (h4.m.us k hlt).1
          have fu4 := (h4.m.us k hlt).2
          rw [HL4.out] at co4 hcap4
          have co4d : w4.drew.cell? ⟨bo, 3, none⟩ = some (.slice (some ⟨g4, 0, none⟩) (O.length + 1) cap4) := co4
          have cu4d : w4.drew.cell? ⟨bo, 4, none⟩ = some (.slice (some ⟨bu, 0, none⟩) n n) := cu4
          have M5 := (((h4.m.setUsed k hlt false).short O.length (by rw [HL4.out]; omega)).putO (by decide) (by decide) (.slice (some ⟨g4, 0, none⟩) O.length cap4)).below ((Below.refl _ _).dr)
          rw [HT.out] at M5
          have H4 := Lib.hid h4
          have hm0 : (0 : Int) ≤ (O.length : Int) := by omega
          have hm2 : (O.length : Int) ≤ (cap4 : Int) := by omega
          unfold maxLen at hml4
          have hmw : IntKind.i64.wrap (O.length : Int) = (O.length : Int) := wraps_i64 _ hm0 (by omega)
          have H6 : SrchI lo bo bu n D w0 vc vf vl _ _ O vb4 (foldO F d O s b (k + 1)) := ⟨M5.fun (fun j hj => memO_back HMM.out j), H4.out.bn, H4.out.bs⟩
          have H6 := Lib.hid H6
          clear M5 h4
          go_wp2_with fail
          
          refine wp_region_noPanic ?_; refine wp_region_L (S := untilL 13 13 (fun w' => w'.cell? ⟨bo, 3, none⟩ = some (.slice (some ⟨g4, 0, none⟩) (O.length + 1) cap4)) (fun w' => w'.cell? ⟨bo, 4, none⟩ = some (.slice (some ⟨bu, 0, none⟩) n n))) (by kernel_rfl) ?_
          (refine wpAnyL_take (S0 := (fun _ => True)) (i := 0) (q := 1) (v := ?lv102) rfl rfl (by kernel_rfl) (by kernel_rfl) (by kernel_rfl) (by kernel_rfl) (by kernel_rfl) (fun _ _ _ h => h) (fun _ _ _ _ => True.intro) (untilL_set (by decide) (by decide)) (Or.inl ⟨by rfl, ?lhy102⟩) ⟨fun _ => co4d, fun _ => cu4d⟩ ?lrest102; case lhy102 => (intro w hSw; (try dsimp only at hSw); go_simp; (try with_reducible rfl)); (try simp only [Act.put, List.getElem_toArray, List.getElem_cons_zero, List.getElem_cons_succ, List.setIfInBounds_toArray, List.set_cons_zero, List.set_cons_succ])); (refine wpAnyL_take (S0 := (fun _ => True)) (i := 1) (q := 2) (v := ?lv103) rfl rfl (by kernel_rfl) (by kernel_rfl) (by kernel_rfl) (by kernel_rfl) (by kernel_rfl) (fun _ _ _ h => h) (fun _ _ _ _ => True.intro) (untilL_set (by decide) (by decide)) (Or.inl ⟨by rfl, ?lhy103⟩) ⟨fun _ => co4d, fun _ => cu4d⟩ ?lrest103; case lhy103 => (intro w hSw; (try dsimp only at hSw); go_simp; (try with_reducible rfl)); (try simp only [Act.put, List.getElem_toArray, List.getElem_cons_zero, List.getElem_cons_succ, List.setIfInBounds_toArray, List.set_cons_zero, List.set_cons_succ])); (refine wpAnyL_take (S0 := (fun _ => True)) (i := 2) (q := 3) (v := ?lv104) rfl rfl (by kernel_rfl) (by kernel_rfl) (by kernel_rfl) (by kernel_rfl) (by kernel_rfl) (fun _ _ _ h => h) (fun _ _ _ _ => True.intro) (untilL_set (by decide) (by decide)) (Or.inl ⟨by rfl, ?lhy104⟩) ⟨fun _ => co4d, fun _ => cu4d⟩ ?lrest104; case lhy104 => (intro w hSw; (try dsimp only at hSw); go_simp; (try with_reducible rfl)); (try simp only [Act.put, List.getElem_toArray, List.getElem_cons_zero, List.getElem_cons_succ, List.setIfInBounds_toArray, List.set_cons_zero, List.set_cons_succ])); (refine wpAnyL_take (S0 := (fun w' => w'.cell? ⟨bo, 4, none⟩ = some (.slice (some ⟨bu, 0, none⟩) n n))) (i := 3) (q := 13) (v := ?lv105) rfl rfl (by kernel_rfl) (by kernel_rfl) (by kernel_rfl) (by kernel_rfl) (by kernel_rfl) (fun _ _ _ h => h) (fun _ _ hq hS => hS.2 hq) (untilL_set (by decide) (by decide)) (Or.inl ⟨by rfl, ?lhy105⟩) ⟨fun _ => co4d, fun _ => cu4d⟩ ?lrest105; case lhy105 => (intro w hSw; (try dsimp only at hSw); go_simp; (try with_reducible rfl)); (try simp only [Act.put, List.getElem_toArray, List.getElem_cons_zero, List.getElem_cons_succ, List.setIfInBounds_toArray, List.set_cons_zero, List.set_cons_succ])); (refine wpAnyL_take (S0 := (fun _ => True)) (i := 4) (q := 12) (v := ?lv106) rfl rfl (by kernel_rfl) (by kernel_rfl) (by kernel_rfl) (by kernel_rfl) (by kernel_rfl) (fun _ _ _ h => h) (fun _ _ _ _ => True.intro) (untilL_set (by decide) (by decide)) (Or.inl ⟨by rfl, ?lhy106⟩) ⟨fun _ => co4d, fun _ => cu4d⟩ ?lrest106; case lhy106 => (intro w hSw; (try dsimp only at hSw); go_simp; (try with_reducible rfl)); (try simp only [Act.put, List.getElem_toArray, List.getElem_cons_zero, List.getElem_cons_succ, List.setIfInBounds_toArray, List.set_cons_zero, List.set_cons_succ])); (refine wpAnyL_take (S0 := (fun _ => True)) (i := 5) (q := 14) (v := ?lv107) rfl rfl (by kernel_rfl) (by kernel_rfl) (by kernel_rfl) (by kernel_rfl) (by kernel_rfl) (fun _ _ _ h => h) (fun _ _ _ _ => True.intro) (untilL_set (by decide) (by decide)) (Or.inl ⟨by rfl, ?lhy107⟩) ⟨fun _ => co4d, fun _ => cu4d⟩ ?lrest107; case lhy107 => (intro w hSw; (try dsimp only at hSw); go_simp; (try with_reducible rfl)); (try simp only [Act.put, List.getElem_toArray, List.getElem_cons_zero, List.getElem_cons_succ, List.setIfInBounds_toArray, List.set_cons_zero, List.set_cons_succ])); (refine wpAnyL_take (S0 := (fun _ => True)) (i := 6) (q := 7) (v := ?lv108) rfl rfl (by kernel_rfl) (by kernel_rfl) (by kernel_rfl) (by kernel_rfl) (by kernel_rfl) (fun _ _ _ h => h) (fun _ _ _ _ => True.intro) (untilL_set (by decide) (by decide)) (Or.inl ⟨by rfl, ?lhy108⟩) ⟨fun _ => co4d, fun _ => cu4d⟩ ?lrest108; case lhy108 => (intro w hSw; (try dsimp only at hSw); go_simp; (try with_reducible rfl)); (try simp only [Act.put, List.getElem_toArray, List.getElem_cons_zero, List.getElem_cons_succ, List.setIfInBounds_toArray, List.set_cons_zero, List.set_cons_succ])); (refine wpAnyL_take (S0 := (fun _ => True)) (i := 7) (q := 8) (v := ?lv109) rfl rfl (by kernel_rfl) (by kernel_rfl) (by kernel_rfl) (by kernel_rfl) (by kernel_rfl) (fun _ _ _ h => h) (fun _ _ _ _ => True.intro) (untilL_set (by decide) (by decide)) (Or.inl ⟨by rfl, ?lhy109⟩) ⟨fun _ => co4d, fun _ => cu4d⟩ ?lrest109; case lhy109 => (intro w hSw; (try dsimp only at hSw); go_simp; (try with_reducible rfl)); (try simp only [Act.put, List.getElem_toArray, List.getElem_cons_zero, List.getElem_cons_succ, List.setIfInBounds_toArray, List.set_cons_zero, List.set_cons_succ])); (refine wpAnyL_take (S0 := (fun _ => True)) (i := 8) (q := 9) (v := ?lv110) rfl rfl (by kernel_rfl) (by kernel_rfl) (by kernel_rfl) (by kernel_rfl) (by kernel_rfl) (fun _ _ _ h => h) (fun _ _ _ _ => True.intro) (untilL_set (by decide) (by decide)) (Or.inl ⟨by rfl, ?lhy110⟩) ⟨fun _ => co4d, fun _ => cu4d⟩ ?lrest110; case lhy110 => (intro w hSw; (try dsimp only at hSw); go_simp; (try with_reducible rfl)); (try simp only [Act.put, List.getElem_toArray, List.getElem_cons_zero, List.getElem_cons_succ, List.setIfInBounds_toArray, List.set_cons_zero, List.set_cons_succ])); (refine wpAnyL_take (S0 := (fun w' => w'.cell? ⟨bo, 3, none⟩ = some (.slice (some ⟨g4, 0, none⟩) (O.length + 1) cap4))) (i := 9) (q := 13) (v := ?lv111) rfl rfl (by kernel_rfl) (by kernel_rfl) (by kernel_rfl) (by kernel_rfl) (by kernel_rfl) (fun _ _ _ h => h) (fun _ _ hq hS => hS.1 hq) (untilL_set (by decide) (by decide)) (Or.inl ⟨by rfl, ?lhy111⟩) ⟨fun _ => co4d, fun _ => cu4d⟩ ?lrest111; case lhy111 => (intro w hSw; (try dsimp only at hSw); go_simp; (try with_reducible rfl)); (try simp only [Act.put, List.getElem_toArray, List.getElem_cons_zero, List.getElem_cons_succ, List.setIfInBounds_toArray, List.set_cons_zero, List.set_cons_succ])); (refine wpAnyL_take (S0 := (fun _ => True)) (i := 10) (q := 11) (v := ?lv112) rfl rfl (by kernel_rfl) (by kernel_rfl) (by kernel_rfl) (by kernel_rfl) (by kernel_rfl) (fun _ _ _ h => h) (fun _ _ _ _ => True.intro) (untilL_set (by decide) (by decide)) (Or.inl ⟨by rfl, ?lhy112⟩) ⟨fun _ => co4d, fun _ => cu4d⟩ ?lrest112; case lhy112 => (intro w hSw; (try dsimp only at hSw); go_simp; (try with_reducible rfl)); (try simp only [Act.put, List.getElem_toArray, List.getElem_cons_zero, List.getElem_cons_succ, List.setIfInBounds_toArray, List.set_cons_zero, List.set_cons_succ])); (refine wpAnyL_take (S0 := (fun _ => True)) (i := 11) (q := 16) (v := ?lv113) rfl rfl (by kernel_rfl) (by kernel_rfl) (by kernel_rfl) (by kernel_rfl) (by kernel_rfl) (fun _ _ _ h => h) (fun _ _ _ _ => True.intro) (untilL_set (by decide) (by decide)) (Or.inl ⟨by rfl, ?lhy113⟩) ⟨fun _ => co4d, fun _ => cu4d⟩ ?lrest113; case lhy113 => (intro w hSw; (try dsimp only at hSw); go_simp; (try with_reducible rfl)); (try simp only [Act.put, List.getElem_toArray, List.getElem_cons_zero, List.getElem_cons_succ, List.setIfInBounds_toArray, List.set_cons_zero, List.set_cons_succ])); (refine wpAnyL_take (S0 := (fun _ => True)) (i := 12) (q := 13) (v := ?lv114) rfl rfl (by kernel_rfl) (by kernel_rfl) (by kernel_rfl) (by kernel_rfl) (by kernel_rfl) (fun _ _ _ h => h) (fun _ _ _ _ => True.intro) (untilL_set (by decide) (by decide)) (Or.inl ⟨by rfl, ?lhy114⟩) ⟨fun _ => co4d, fun _ => cu4d⟩ ?lrest114; case lhy114 => (intro w hSw; (try dsimp only at hSw); go_simp; (try with_reducible rfl)); (try simp only [Act.put, List.getElem_toArray, List.getElem_cons_zero, List.getElem_cons_succ, List.setIfInBounds_toArray, List.set_cons_zero, List.set_cons_succ]))
          refine wpAnyL_ready (rs := [13]) (by kernel_rfl) (by simp) ?_; refine AllReadyL.cons (i := 13) rfl (fun K hK => ?_) AllReadyL.nil
          go_simp
          refine hK.out _ _ ⟨(fun h => Bool.noConfusion (show true = false from h)), (fun h => Bool.noConfusion (show true = false from h))⟩ (fun hHeld => ?_); clear hK K; (try simp only [Act.put, List.getElem_toArray, List.getElem_cons_zero, List.getElem_cons_succ, List.setIfInBounds_toArray, List.set_cons_zero, List.set_cons_succ])
          (refine wpAnyL_take (S0 := (fun _ => True)) (i := 14) (q := 15) (v := ?lv115) rfl rfl (by kernel_rfl) (by kernel_rfl) (by kernel_rfl) (by kernel_rfl) (by kernel_rfl) (fun _ _ _ h => h) (fun _ _ _ _ => True.intro) (untilL_set (by decide) (by decide)) (Or.inl ⟨by rfl, ?lhy115⟩) ⟨(fun h => Bool.noConfusion (show true = false from h)), (fun h => Bool.noConfusion (show true = false from h))⟩ ?lrest115; case lhy115 => (intro w hSw; (try dsimp only at hSw); go_simp; (try with_reducible rfl)); (try simp only [Act.put, List.getElem_toArray, List.getElem_cons_zero, List.getElem_cons_succ, List.setIfInBounds_toArray, List.set_cons_zero, List.set_cons_succ])); (refine wpAnyL_take (S0 := (fun _ => True)) (i := 15) (q := 16) (v := ?lv116) rfl rfl (by kernel_rfl) (by kernel_rfl) (by kernel_rfl) (by kernel_rfl) (by kernel_rfl) (fun _ _ _ h => h) (fun _ _ _ _ => True.intro) (untilL_set (by decide) (by decide)) (Or.inl ⟨by rfl, ?lhy116⟩) ⟨(fun h => Bool.noConfusion (show true = false from h)), (fun h => Bool.noConfusion (show true = false from h))⟩ ?lrest116; case lhy116 => (intro w hSw; (try dsimp only at hSw); go_simp; (try with_reducible rfl)); (try simp only [Act.put, List.getElem_toArray, List.getElem_cons_zero, List.getElem_cons_succ, List.setIfInBounds_toArray, List.set_cons_zero, List.set_cons_succ]))
          refine wpAnyL_ready (rs := [16]) (by kernel_rfl) (by simp) ?_; refine AllReadyL.cons (i := 16) rfl (fun K hK => ?_) AllReadyL.nil
          go_simp
          refine hK.out _ _ ⟨(fun h => Bool.noConfusion (show true = false from h)), (fun h => Bool.noConfusion (show true = false from h))⟩ (fun hHeld => ?_); clear hK K; (try simp only [Act.put, List.getElem_toArray, List.getElem_cons_zero, List.getElem_cons_succ, List.setIfInBounds_toArray, List.set_cons_zero, List.set_cons_succ])
          refine wpAnyL_done (by kernel_rfl) ?_ _; refine NoPanic.normal ?_
          go_wp2_with fail
          go_roundw
          case rel => exact ⟨k + 1, by omega, by go_num, _, _, H6.out⟩
          case measure => simp [intOf]; omega
      · have HR : Hid (foldO F d O s b (k + 1) = foldO F d O s b k) := by unfold Hid; rw [foldO_succ]; unfold roundO; rw [if_pos (by simpa [memO] using hm)]
        rw [hm] at us
        have HS := Lib.hid hS
        clear hm hS
        go_wp2_with fail
        go_roundw
        case rel => exact ⟨k + 1, by omega, by go_num, _, _, by rw [HR.out]; exact HS.out⟩
        case measure => simp [intOf]; omega
    · obtain rfl : k = n := by omega
      have HS := Lib.hid hS
      clear hS
      go_wp2
      go_end0
      exact ⟨rfl, vo', vb', by rw [HW.out]; exact HS.out⟩
/-- the program's search does what the plain search does -/
theorem c_impl_step (lo bo bu n : Nat) (D : Nat → Prop) (w0 : World) (vc vf vl : Value) (F : Far) (hF : RdFar D n w0 vc vf vl F) (hB : BdF F n) : ∀ (d : Nat) (O : List Int) (s : Int) (vo vb : Value) (b : Option (List Int × Int)) (w : World), SrchI lo bo bu n D w0 vc vf vl w vo O vb b → PathO n O → O.length + d = n → (0 ≤ s ∧ s ≤ 1000000 * (O.length : Int)) → NnO b →
      Calls Try.prog 37 #[.pointer (some ⟨bo, 0, none⟩), .int .i64 s] w fun e w' => e = .returned (.tuple #[]) ∧ ∃ vo' vb', SrchI lo bo bu n D w0 vc vf vl w' vo' O vb' (walkO F d O s b)
  | 0, O, s, vo, vb, b, w, h, hO, hl, hs, hb => by
    cases hc : cutO b s
    · exact c_impl_step_leaf lo bo bu n D w0 vc vf vl F O s vo vb b w h hF hB hO (by omega) hs hb hc
    · exact c_impl_step_cut lo bo bu n D w0 vc vf vl F 0 O s vo vb b w h hF hB hb hc
  | d + 1, O, s, vo, vb, b, w, h, hO, hl, hs, hb => by
    cases hc : cutO b s
    · cases hb0 : b with
      | none => rw [← hb0]; exact c_impl_step_node0 lo bo bu n D w0 vc vf vl F hF hB d (fun O s vo vb b w h1 h2 h3 h4 h5 => c_impl_step lo bo bu n D w0 vc vf vl F hF hB d O s vo vb b w h1 h2 h3 h4 h5) O s vo vb b w h hO hl hs hb hc hb0
      | some p => rw [← hb0]; exact c_impl_step_node1 lo bo bu n D w0 vc vf vl F hF hB d (fun O s vo vb b w h1 h2 h3 h4 h5 => c_impl_step lo bo bu n D w0 vc vf vl F hF hB d O s vo vb b w h1 h2 h3 h4 h5) O s vo vb b w h hO hl hs hb hc ⟨p, hb0, by rw [hb0] at hc; simpa [cutO] using hc⟩
    · exact c_impl_step_cut lo bo bu n D w0 vc vf vl F (d + 1) O s vo vb b w h hF hB hb hc
/-- the reference's search does what the plain search does -/
theorem c_spec_walk (lo bo bu n : Nat) (D : Nat → Prop) (w0 : World) (vc vf vl : Value) (F : Far) (hF : RdFar D n w0 vc vf vl F) (hB : BdF F n) : ∀ (d : Nat) (O : List Int) (s : Int) (vo vb : Value) (b : Option (List Int × Int)) (w : World), SrchS lo bo bu n D w0 vc vf vl w vo O vb b → PathO n O → O.length + d = n → (0 ≤ s ∧ s ≤ 1000000 * (O.length : Int)) → NnO b →
      Calls Try.prog 42 #[.pointer (some ⟨bo, 0, none⟩), .int .i64 s] w fun e w' => e = .returned (.tuple #[]) ∧ ∃ vo' vb', SrchS lo bo bu n D w0 vc vf vl w' vo' O vb' (walkO F d O s b)
  | 0, O, s, vo, vb, b, w, h, hO, hl, hs, hb => by
    cases hc : cutO b s
    · exact c_spec_walk_leaf lo bo bu n D w0 vc vf vl F O s vo vb b w h hF hB hO (by omega) hs hb hc
    · exact c_spec_walk_cut lo bo bu n D w0 vc vf vl F 0 O s vo vb b w h hF hB hb hc
  | d + 1, O, s, vo, vb, b, w, h, hO, hl, hs, hb => by
    cases hc : cutO b s
    · cases hb0 : b with
      | none => rw [← hb0]; exact c_spec_walk_node0 lo bo bu n D w0 vc vf vl F hF hB d (fun O s vo vb b w h1 h2 h3 h4 h5 => c_spec_walk lo bo bu n D w0 vc vf vl F hF hB d O s vo vb b w h1 h2 h3 h4 h5) O s vo vb b w h hO hl hs hb hc (by rw [hb0]; decide)
      | some p => rw [← hb0]; exact c_spec_walk_node1 lo bo bu n D w0 vc vf vl F hF hB d (fun O s vo vb b w h1 h2 h3 h4 h5 => c_spec_walk lo bo bu n D w0 vc vf vl F hF hB d O s vo vb b w h1 h2 h3 h4 h5) O s vo vb b w h hO hl hs hb hc (by rw [hb0] at hc hb ⊢; exact ⟨(hb p rfl).1, (by have h9 : s < p.2 := (by simpa [cutO] using hc); exact h9)⟩)
    · exact c_spec_walk_cut lo bo bu n D w0 vc vf vl F (d + 1) O s vo vb b w h hF hB hb hc
end Go.Proofs.Ytgcmnpimkfmccaa
