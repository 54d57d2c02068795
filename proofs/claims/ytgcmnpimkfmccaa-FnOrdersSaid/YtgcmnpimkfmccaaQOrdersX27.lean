/- The law OrdersX: what it rests on, part 27 of 48. -/
import Derived.Deep.QuietTactic
import Derived.BigQuiet
import Derived.Test.YtgcmnpimkfmccaaQOrdersX10
import Derived.Test.YtgcmnpimkfmccaaQOrdersX24
import Derived.Test.YtgcmnpimkfmccaaQOrdersX26
namespace Go.Proofs.Ytgcmnpimkfmccaa
open Go.ChangeShapes Go.WideShapes Go.ChangeAt Go.RowKit
set_option linter.unusedSimpArgs false
set_option linter.unusedVariables false
abbrev SrchS (lo bo bu n : Nat) (D : Nat → Prop) := SrchAt 2 lo bo 4 3 bu n D (-1)
set_option maxRecDepth 100000 in
/-- the search stops where it cannot be better -/
theorem c_spec_walk_cut (lo bo bu n : Nat) (D : Nat → Prop) (w0 : World) (vc vf vl : Value) (F : Far) (d : Nat) (O : List Int) (s : Int) (vo vb : Value) (b : Option (List Int × Int)) (w : World)
    (h : SrchS lo bo bu n D w0 vc vf vl w vo O vb b) (hF : RdFar D n w0 vc vf vl F) (hB : BdF F n) (hb : NnO b) (hcut : cutO b s = true) :
    Calls Try.prog 42 #[.pointer (some ⟨bo, 0, none⟩), .int .i64 s] w fun e w' => e = .returned (.tuple #[]) ∧ ∃ vo' vb', SrchS lo bo bu n D w0 vc vf vl w' vo' O vb' (walkO F d O s b) := by
  cases b with
  | none => cases hcut
  | some p =>
    have h2 : p.2 ≤ s := by simpa [cutO] using hcut
    have hp := hb p rfl
    have c1 := h.m.c1
    have c6 : w.cell? ⟨bo, 6, none⟩ = some (.int .i64 p.2) := h.m.c6
    obtain ⟨b1, o1, cap1, rfl, -, -⟩ := hF.ff
    have HH := Lib.hid h
    have HW := Lib.hid (walkO_cut F d O s (some p) hcut)
    have h0 : 0 ≤ p.2 := hp.1
    generalize p.2 = L at *
    clear h hF hcut hp hb
    go_enter Try.func42, Try.ntmps42
    go_wp2
    exact bodyPost_ret (v := .tuple #[]) (by simp [results, Try.results42, go_sem]) rfl ⟨rfl, vo, vb, by rw [HW.out]; exact HH.out⟩
set_option maxHeartbeats 4000000 in
set_option maxRecDepth 100000 in
/-- the search at a whole order -/
theorem c_spec_walk_leaf (lo bo bu n : Nat) (D : Nat → Prop) (w0 : World) (vc vf vl : Value) (F : Far) (O : List Int) (s : Int) (vo vb : Value) (b : Option (List Int × Int)) (w : World)
    (h : SrchS lo bo bu n D w0 vc vf vl w vo O vb b) (hF : RdFar D n w0 vc vf vl F) (hB : BdF F n) (hO : PathO n O) (hl : O.length = n) (hs : 0 ≤ s ∧ s ≤ 1000000 * (O.length : Int)) (hb : NnO b) (hcut : cutO b s = false) :
    Calls Try.prog 42 #[.pointer (some ⟨bo, 0, none⟩), .int .i64 s] w fun e w' => e = .returned (.tuple #[]) ∧ ∃ vo' vb', SrchS lo bo bu n D w0 vc vf vl w' vo' O vb' (walkO F 0 O s b) := by
  have hn := hB.hn
  have hne : O ≠ [] := fun e => by rw [e] at hl; simp at hl; omega
  obtain ⟨e1, e2⟩ := lastI_at hO hne
  have hL := hB.hl (lastI O)
  have hR := hF.upd h.m.up
  obtain ⟨bf, of, cf, rfl, df, -⟩ := hR.ff
  obtain ⟨bl, ol, cl, rfl, dl, xl⟩ := hR.ll
  have xl := xl (lastI O) e2
  have HW := Lib.hid (walkO_zero F O s b hcut)
  obtain ⟨q, Hq⟩ : ∃ q, Hid (lastI O = q) := ⟨_, rfl⟩
  rw [Hq.out] at e1 e2 hL xl HW
  obtain ⟨L, HL⟩ : ∃ L, Hid (F.last.getD q 0 = L) := ⟨_, rfl⟩
  rw [HL.out] at hL xl HW
  rcases h.m.ow.shape with ⟨-, hnil⟩ | ⟨g, cap, rfl, hg1, hg2, hcap, hml, hcr, hfr⟩
  · exact absurd hnil hne
  have xo := hcr (O.length - 1) (by omega)
  rw [e1] at xo
  have hrd := Lib.hid h.m.ow.rd
  have c1 := h.m.c1
  have c2 := h.m.c2
  have co := h.m.co
  have c6 := h.m.c6
  have c5 := h.m.c5
  have f5 := h.m.f5
  have f6 := h.m.f6
  have HH := Lib.hid h
  rw [hl] at co xo hcap hcr
  have hs2 : s ≤ 8000000 := by omega
  have hs0 := hs.1
  have hL0 := hL.1
  have hL1 := hL.2
  have hn1 := hn.1
  have hn2 := hn.2
  have hq0 : (0 : Int) ≤ (q : Int) := by omega
  have hq1 : (q : Int) < (n : Int) := by omega
  have hm1 : (n : Int) - 1 = ((n - 1 : Nat) : Int) := by omega
  have HM1 := Lib.hid hm1
  have hin0 : (0 : Int) ≤ ((n - 1 : Nat) : Int) := by omega
  have hin1 : ((n - 1 : Nat) : Int) < (n : Int) := by omega
  have hll : O.length ≤ 1000000 := by omega
  have HLN := Lib.hid hl
  clear hF hR hb hs hL hO hne e1 e2 hl hn hm1
  cases b with
  | none =>
    clear hcut
    replace c6 : w.cell? ⟨bo, 6, none⟩ = some (.int .i64 (-1)) := c6
    clear h
    go_enter Try.func42, Try.ntmps42
    go_wp2_with fail
    go_quiet (fail)
    go_wp2_with fail
    have M2 := (HH.out.m.below ((Below.refl _ _).drN nq)).put6 (by decide) (by decide) (.int .i64 (s + L))
    have H2 := Lib.hid M2
    clear M2
    refine (c_spec_l00Own O _ _ (by rw [← HLN.out]; exact H2.out.ow.rd) hll).mono ?_; rintro e w3 ⟨u, rfl, hou, hb3⟩
    rcases hou.shape with ⟨-, hnil⟩ | ⟨ug, uc, rfl, -⟩
    · exact absurd (by rw [hnil] at HLN; have := HLN.out; simp at this; omega) id
    have M3 := H2.out.newBest hou hb3
    have c5 := M3.c5
    have f5 := M3.f5
    have H4 := Lib.hid (M3.put5 (by decide) (by decide) (.slice (some ⟨ug, 0, none⟩) O.length uc))
    clear M3
    go_wp2_with fail
    exact bodyPost_ret (v := .tuple #[]) (by simp [results, Try.results42, go_sem]) rfl ⟨rfl, _, _, by rw [HW.out]; exact ⟨H4.out, (fun e => by cases e), fun _ _ => ⟨_, _, _, rfl⟩⟩⟩
  | some p =>
    have hp : s < p.2 := by simpa [cutO] using hcut
    replace c6 : w.cell? ⟨bo, 6, none⟩ = some (.int .i64 p.2) := c6
    have hp0 : 0 ≤ p.2 := by omega
    have HU : Hid (walkO F 0 O s (some p) = if s + L < p.2 then some (O, s + L) else some p) := HW.out
    clear hcut h
    obtain ⟨P, HP⟩ : ∃ P, Hid (p.2 = P) := ⟨_, rfl⟩
    rw [HP.out] at c6 hp hp0 HU
    by_cases hlt : s + L < P
    · have HU2 : Hid (walkO F 0 O s (some p) = some (O, s + L)) := by have := HU.out; rw [if_pos hlt] at this; exact this
      go_enter Try.func42, Try.ntmps42
      go_wp2_with fail
      go_quiet (fail)
      go_wp2_with fail
      have M2 := (HH.out.m.below ((Below.refl _ _).drN nq)).put6 (by decide) (by decide) (.int .i64 (s + L))
      have H2 := Lib.hid M2
      clear M2
      refine (c_spec_l00Own O _ _ (by rw [← HLN.out]; exact H2.out.ow.rd) hll).mono ?_; rintro e w3 ⟨u, rfl, hou, hb3⟩
      rcases hou.shape with ⟨-, hnil⟩ | ⟨ug, uc, rfl, -⟩
      · exact absurd (by rw [hnil] at HLN; have := HLN.out; simp at this; omega) id
      have M3 := H2.out.newBest hou hb3
      have c5 := M3.c5
      have f5 := M3.f5
      have H4 := Lib.hid (M3.put5 (by decide) (by decide) (.slice (some ⟨ug, 0, none⟩) O.length uc))
      clear M3
      go_wp2_with fail
      exact bodyPost_ret (v := .tuple #[]) (by simp [results, Try.results42, go_sem]) rfl ⟨rfl, _, _, by rw [HU2.out]; exact ⟨H4.out, (fun e => by cases e), fun _ _ => ⟨_, _, _, rfl⟩⟩⟩
    · have HU2 : Hid (walkO F 0 O s (some p) = some p) := by have := HU.out; rw [if_neg hlt] at this; exact this
      go_enter Try.func42, Try.ntmps42
      go_wp2_with fail
      go_quiet (fail)
      go_wp2_with fail
      exact bodyPost_ret (v := .tuple #[]) (by simp [results, Try.results42, go_sem]) rfl ⟨rfl, _, vb, by rw [HU2.out]; exact HH.out.below ((Below.refl _ _).drN nq)⟩
set_option maxHeartbeats 8000000 in
set_option maxRecDepth 100000 in
/-- the search goes through all places that may be the next one -/
theorem c_spec_walk_node0 (lo bo bu n : Nat) (D : Nat → Prop) (w0 : World) (vc vf vl : Value) (F : Far) (hF : RdFar D n w0 vc vf vl F) (hB : BdF F n) (d : Nat)
    (ih : ∀ (O : List Int) (s : Int) (vo vb : Value) (b : Option (List Int × Int)) (w : World), SrchS lo bo bu n D w0 vc vf vl w vo O vb b → PathO n O → O.length + d = n → (0 ≤ s ∧ s ≤ 1000000 * (O.length : Int)) → NnO b →
      Calls Try.prog 42 #[.pointer (some ⟨bo, 0, none⟩), .int .i64 s] w fun e w' => e = .returned (.tuple #[]) ∧ ∃ vo' vb', SrchS lo bo bu n D w0 vc vf vl w' vo' O vb' (walkO F d O s b))
    (O : List Int) (s : Int) (vo vb : Value) (b : Option (List Int × Int)) (w : World)
    (h : SrchS lo bo bu n D w0 vc vf vl w vo O vb b) (hO : PathO n O) (hl : O.length + (d + 1) = n) (hs : 0 ≤ s ∧ s ≤ 1000000 * (O.length : Int)) (hb : NnO b) (hcut : cutO b s = false) (hP0 : lstO (-1) b < 0) :
    Calls Try.prog 42 #[.pointer (some ⟨bo, 0, none⟩), .int .i64 s] w fun e w' => e = .returned (.tuple #[]) ∧ ∃ vo' vb', SrchS lo bo bu n D w0 vc vf vl w' vo' O vb' (walkO F (d + 1) O s b) := by
  have hn := hB.hn
  have HW := Lib.hid (walkO_succ F d O s b hcut)
  rw [hB.hf] at HW
  have HFN := Lib.hid (foldO_nn hB hl hs hb)
  have c1 := h.m.c1
  have c6 := h.m.c6
  have hR := hF.upd h.m.up
  obtain ⟨bf, of, cf, evf, df, -⟩ := hR.ff
  rw [evf] at c1
  obtain ⟨ao, cap, hvo, -, -⟩ := h.m.ow.rd
  have co := h.m.co
  rw [hvo] at co
  have HH := Lib.hid h
  have hln : O.length < n := by omega
  have hl2 : (O ++ [(0 : Int)]).length + d = n := by rw [List.length_append, List.length_singleton]; omega
  have hs0 := hs.1
  have hs1 : s ≤ 7000000 := by omega
  obtain ⟨P, HP⟩ : ∃ P, Hid (lstO (-1) b = P) := ⟨_, rfl⟩
  rw [HP.out] at c6
  rw [HP.out] at hP0
  clear h hR hb hcut hvo evf
  have hn1 := hn.1
  have hn2 := hn.2
  have hlm : O.length ≤ 8 := by omega
  first
    | (have hp9 := hP0.2; have hdec : decide (P ≤ s) = false := by rw [decide_eq_false_iff_not]; omega)
    | skip
  have hdec2 : ((O.length : Int) == (n : Int)) = false := by rw [beq_eq_false_iff_ne]; omega
  go_enter Try.func42, Try.ntmps42
  go_wp2_with fail
  go_loopw [6] (fun kv wr => ∃ k : Nat, k ≤ n ∧ kv = .int .i64 k ∧ ∃ vo' vb', SrchS lo bo bu n D w0 vc vf vl wr vo' O vb' (foldO F d O s b k)) (fun kv _ => n - (intOf kv).toNat)
  case atStart => exact ⟨0, by omega, rfl, vo, vb, HH.out⟩
  case round =>
    obtain ⟨k, hk, rfl, vo', vb', hS⟩ := hrel
    by_cases hlt : k < n
    · have cu := hS.m.cu
      have us := (hS.m.us k hlt).1
      have hk0 : (0 : Int) ≤ (k : Int) := by omega
      have hk1 : (k : Int) < (n : Int) := by omega
      cases hm : memO O k
      · have hmo : Hid ((k : Int) ∉ O) := by unfold Hid; simpa [memO] using hm
        have HR : Hid (foldO F d O s b (k + 1) = walkO F d (O ++ [(k : Int)]) (s + costO F O k) (foldO F d O s b k)) := by unfold Hid; rw [foldO_succ]; unfold roundO; rw [if_neg hmo.out]
        have hnb := HFN.out k
        obtain ⟨b', Hb'⟩ : ∃ b', Hid (foldO F d O s b k = b') := ⟨_, rfl⟩
        rw [Hb'.out] at hS HR hnb
        rw [hm] at us
        have hC := hB.hc O k
        have HC2 : Hid (costO F O k = if O = [] then F.first.getD k 0 else (F.costs.getD (lastI O) []).getD k 0) := rfl
        obtain ⟨C, HC⟩ : ∃ C, Hid (costO F O k = C) := ⟨_, rfl⟩
        rw [HC.out] at hC HR HC2
        have hC0 := hC.1
        have hC1 := hC.2
        have hl2 : (O ++ [(k : Int)]).length + d = n := by rw [List.length_append, List.length_singleton]; omega
        have hsC : 0 ≤ s + C ∧ s + C ≤ 1000000 * ((O ++ [(k : Int)]).length : Int) := by rw [List.length_append, List.length_singleton]; omega
        have HN := Lib.hid hnb
        have hR := hF.upd hS.m.up
        obtain ⟨bf2, of2, cf2, evf2, df2, xf0⟩ := hR.ff
        have xf := xf0 k hlt
        clear xf0
        have hne1 := hS.m.ne
        have hne2 : bu ≠ bo := fun e => hne1 e.symm
        have c1 := hS.m.c1
        rw [evf2] at c1
        have co := hS.m.co
        by_cases hne : O = []
        · obtain ⟨ao', cap', rfl, -, -⟩ := hS.m.ow.rd
          have hzl : ¬ (0 : Int) < (O.length : Int) := by rw [hne]; simp
          have hx : F.first.getD k 0 = C := by have := HC2.out; rw [if_pos hne] at this; exact this.symm
          rw [hx] at xf
          have HNE := Lib.hid hne
          have HMM := Lib.hid hm
          clear hne hx hR hC hn hm hk0 hk1
          clear hnb
          have hnb := HN.out
          have fu := (hS.m.us k hlt).2
          have HS := Lib.hid (hS.below (Below.refl _ _))
          have M1 := Lib.hid (HS.out.m.setUsed k hlt true)
          have hlo1 : lo ≤ wr.heap.size := by have h1 := hS.m.up.size; have h2 := hS.m.hlo; omega
          have hsz : (wr.setCell ⟨bu, k, none⟩ (.bool true)).heap.size = wr.heap.size := by simp
          have HSZ := Lib.hid hsz
          clear hS hsz
          go_wp2_with (at_builtin; refine push_int_at rfl _ _ _ _ rfl Try.underlying28 infoI lo _ O (k : Int) (wr.setCell ⟨bu, k, none⟩ (.bool true)) rfl (by rw [HSZ.out]; rfl) (by exact M1.out.ow) (by omega) (by rw [HSZ.out]; exact hlo1) ?_; intro v2 w2 ho2 hg2 hat2 hs2; refine stop_of ?_)
          unfold Stopped
          have M2 := M1.out.grow ho2 hg2 (by
            rcases hat2 with e | e
            · exact Or.inl e
            · refine Or.inr (fun q hq => ?_)
              rw [e] at hq
              simp only [Option.some.injEq] at hq
              omega)
          rcases ho2.shape with ⟨-, hnil⟩ | ⟨g2, cap2, rfl, -⟩
          · exact absurd hnil (by simp)
          have hlen4 : (O ++ [(k : Int)]).length = O.length + 1 := by simp
          rw [hlen4] at M2
          have HL4 := Lib.hid hlen4
          clear hlen4
          have co2 := M2.co
          have fo2 := M2.fo
          have M3 := M2.putO (by decide) (by decide) (.slice (some ⟨g2, 0, none⟩) (O.length + 1) cap2)
          have H3 : SrchS lo bo bu n D w0 vc vf vl _ _ (O ++ [(k : Int)]) vb' b' := ⟨M3.fun (fun j hj => (memO_snoc O k j).symm), HS.out.bn, HS.out.bs⟩
          have H3 := Lib.hid H3
          clear M2 M3 co cu us fu
          go_wp2_with fail
          refine (ih _ _ _ _ _ _ H3.out (hO.snoc hlt hmo.out) hl2 hsC hnb).mono ?_; rintro e w4 ⟨rfl, vo4, vb4, h4⟩
          rw [← HR.out] at h4
          rcases h4.m.ow.shape with ⟨-, hnil⟩ | ⟨g4, cap4, rfl, -, -, hcap4, hml4, -⟩
          · exact absurd hnil (by simp)
          have HT : Hid ((O ++ [(k : Int)]).take O.length = O) := by unfold Hid; simp
          have co4 := h4.m.co
          have fo4 := h4.m.fo
          rw [HL4.out] at co4 hcap4
          have co4d : w4.drew.cell? ⟨bo, 4, none⟩ = some (.slice (some ⟨g4, 0, none⟩) (O.length + 1) cap4) := co4
          have M5 := ((h4.m.short O.length (by rw [HL4.out]; omega)).putO (by decide) (by decide) (.slice (some ⟨g4, 0, none⟩) O.length cap4)).below ((Below.refl _ _).dr)
          rw [HT.out] at M5
          have H4 := Lib.hid h4
          have hm1 : (((O.length + 1 : Nat) : Int)) - 1 = (O.length : Int) := by omega
          have hm0 : (0 : Int) ≤ (O.length : Int) := by omega
          have hm2 : (O.length : Int) ≤ (cap4 : Int) := by omega
          unfold maxLen at hml4
          have hmw : IntKind.i64.wrap (O.length : Int) = (O.length : Int) := wraps_i64 _ hm0 (by omega)
          have H5 := Lib.hid M5
          clear M5 h4
          go_wp2_with fail
          
          refine wp_region_noPanic ?_; refine wp_region_L (S := untilL 14 14 (fun w' => w'.cell? ⟨bo, 4, none⟩ = some (.slice (some ⟨g4, 0, none⟩) (O.length + 1) cap4)) (fun _ => True)) (by kernel_rfl) ?_
          (refine wpAnyL_take (S0 := (fun _ => True)) (i := 0) (q := 12) (v := ?lv1) rfl rfl (by kernel_rfl) (by kernel_rfl) (by kernel_rfl) (by kernel_rfl) (by kernel_rfl) (fun _ _ _ h => h) (fun _ _ _ _ => True.intro) (untilL_set (by decide) (by decide)) (Or.inl ⟨by rfl, ?lhy1⟩) ⟨fun _ => co4d, fun _ => True.intro⟩ ?lrest1; case lhy1 => (intro w hSw; (try dsimp only at hSw); go_simp; (try with_reducible rfl)); (try simp only [Act.put, List.getElem_toArray, List.getElem_cons_zero, List.getElem_cons_succ, List.setIfInBounds_toArray, List.set_cons_zero, List.set_cons_succ])); (refine wpAnyL_take (S0 := (fun _ => True)) (i := 1) (q := 2) (v := ?lv2) rfl rfl (by kernel_rfl) (by kernel_rfl) (by kernel_rfl) (by kernel_rfl) (by kernel_rfl) (fun _ _ _ h => h) (fun _ _ _ _ => True.intro) (untilL_set (by decide) (by decide)) (Or.inl ⟨by rfl, ?lhy2⟩) ⟨fun _ => co4d, fun _ => True.intro⟩ ?lrest2; case lhy2 => (intro w hSw; (try dsimp only at hSw); go_simp; (try with_reducible rfl)); (try simp only [Act.put, List.getElem_toArray, List.getElem_cons_zero, List.getElem_cons_succ, List.setIfInBounds_toArray, List.set_cons_zero, List.set_cons_succ])); (refine wpAnyL_take (S0 := (fun _ => True)) (i := 2) (q := 3) (v := ?lv3) rfl rfl (by kernel_rfl) (by kernel_rfl) (by kernel_rfl) (by kernel_rfl) (by kernel_rfl) (fun _ _ _ h => h) (fun _ _ _ _ => True.intro) (untilL_set (by decide) (by decide)) (Or.inl ⟨by rfl, ?lhy3⟩) ⟨fun _ => co4d, fun _ => True.intro⟩ ?lrest3; case lhy3 => (intro w hSw; (try dsimp only at hSw); go_simp; (try with_reducible rfl)); (try simp only [Act.put, List.getElem_toArray, List.getElem_cons_zero, List.getElem_cons_succ, List.setIfInBounds_toArray, List.set_cons_zero, List.set_cons_succ])); (refine wpAnyL_take (S0 := (fun _ => True)) (i := 3) (q := 4) (v := ?lv4) rfl rfl (by kernel_rfl) (by kernel_rfl) (by kernel_rfl) (by kernel_rfl) (by kernel_rfl) (fun _ _ _ h => h) (fun _ _ _ _ => True.intro) (untilL_set (by decide) (by decide)) (Or.inl ⟨by rfl, ?lhy4⟩) ⟨fun _ => co4d, fun _ => True.intro⟩ ?lrest4; case lhy4 => (intro w hSw; (try dsimp only at hSw); go_simp; (try with_reducible rfl)); (try simp only [Act.put, List.getElem_toArray, List.getElem_cons_zero, List.getElem_cons_succ, List.setIfInBounds_toArray, List.set_cons_zero, List.set_cons_succ])); (refine wpAnyL_take (S0 := (fun w' => w'.cell? ⟨bo, 4, none⟩ = some (.slice (some ⟨g4, 0, none⟩) (O.length + 1) cap4))) (i := 4) (q := 14) (v := ?lv5) rfl rfl (by kernel_rfl) (by kernel_rfl) (by kernel_rfl) (by kernel_rfl) (by kernel_rfl) (fun _ _ _ h => h) (fun _ _ hq hS => hS.1 hq) (untilL_set (by decide) (by decide)) (Or.inl ⟨by rfl, ?lhy5⟩) ⟨fun _ => co4d, fun _ => True.intro⟩ ?lrest5; case lhy5 => (intro w hSw; (try dsimp only at hSw); go_simp; (try with_reducible rfl)); (try simp only [Act.put, List.getElem_toArray, List.getElem_cons_zero, List.getElem_cons_succ, List.setIfInBounds_toArray, List.set_cons_zero, List.set_cons_succ])); (refine wpAnyL_take (S0 := (fun _ => True)) (i := 5) (q := 6) (v := ?lv6) rfl rfl (by kernel_rfl) (by kernel_rfl) (by kernel_rfl) (by kernel_rfl) (by kernel_rfl) (fun _ _ _ h => h) (fun _ _ _ _ => True.intro) (untilL_set (by decide) (by decide)) (Or.inl ⟨by rfl, ?lhy6⟩) ⟨fun _ => co4d, fun _ => True.intro⟩ ?lrest6; case lhy6 => (intro w hSw; (try dsimp only at hSw); go_simp; (try with_reducible rfl)); (try simp only [Act.put, List.getElem_toArray, List.getElem_cons_zero, List.getElem_cons_succ, List.setIfInBounds_toArray, List.set_cons_zero, List.set_cons_succ])); (refine wpAnyL_take (S0 := (fun _ => True)) (i := 6) (q := 7) (v := ?lv7) rfl rfl (by kernel_rfl) (by kernel_rfl) (by kernel_rfl) (by kernel_rfl) (by kernel_rfl) (fun _ _ _ h => h) (fun _ _ _ _ => True.intro) (untilL_set (by decide) (by decide)) (Or.inl ⟨by rfl, ?lhy7⟩) ⟨fun _ => co4d, fun _ => True.intro⟩ ?lrest7; case lhy7 => (intro w hSw; (try dsimp only at hSw); go_simp; (try with_reducible rfl)); (try simp only [Act.put, List.getElem_toArray, List.getElem_cons_zero, List.getElem_cons_succ, List.setIfInBounds_toArray, List.set_cons_zero, List.set_cons_succ])); (refine wpAnyL_take (S0 := (fun _ => True)) (i := 7) (q := 8) (v := ?lv8) rfl rfl (by kernel_rfl) (by kernel_rfl) (by kernel_rfl) (by kernel_rfl) (by kernel_rfl) (fun _ _ _ h => h) (fun _ _ _ _ => True.intro) (untilL_set (by decide) (by decide)) (Or.inl ⟨by rfl, ?lhy8⟩) ⟨fun _ => co4d, fun _ => True.intro⟩ ?lrest8; case lhy8 => (intro w hSw; (try dsimp only at hSw); go_simp; (try with_reducible rfl)); (try simp only [Act.put, List.getElem_toArray, List.getElem_cons_zero, List.getElem_cons_succ, List.setIfInBounds_toArray, List.set_cons_zero, List.set_cons_succ])); (refine wpAnyL_take (S0 := (fun w' => w'.cell? ⟨bo, 4, none⟩ = some (.slice (some ⟨g4, 0, none⟩) (O.length + 1) cap4))) (i := 8) (q := 14) (v := ?lv9) rfl rfl (by kernel_rfl) (by kernel_rfl) (by kernel_rfl) (by kernel_rfl) (by kernel_rfl) (fun _ _ _ h => h) (fun _ _ hq hS => hS.1 hq) (untilL_set (by decide) (by decide)) (Or.inl ⟨by rfl, ?lhy9⟩) ⟨fun _ => co4d, fun _ => True.intro⟩ ?lrest9; case lhy9 => (intro w hSw; (try dsimp only at hSw); go_simp; (try with_reducible rfl)); (try simp only [Act.put, List.getElem_toArray, List.getElem_cons_zero, List.getElem_cons_succ, List.setIfInBounds_toArray, List.set_cons_zero, List.set_cons_succ])); (refine wpAnyL_take (S0 := (fun _ => True)) (i := 9) (q := 10) (v := ?lv10) rfl rfl (by kernel_rfl) (by kernel_rfl) (by kernel_rfl) (by kernel_rfl) (by kernel_rfl) (fun _ _ _ h => h) (fun _ _ _ _ => True.intro) (untilL_set (by decide) (by decide)) (Or.inl ⟨by rfl, ?lhy10⟩) ⟨fun _ => co4d, fun _ => True.intro⟩ ?lrest10; case lhy10 => (intro w hSw; (try dsimp only at hSw); go_simp; (try with_reducible rfl)); (try simp only [Act.put, List.getElem_toArray, List.getElem_cons_zero, List.getElem_cons_succ, List.setIfInBounds_toArray, List.set_cons_zero, List.set_cons_succ])); (refine wpAnyL_take (S0 := (fun _ => True)) (i := 10) (q := 11) (v := ?lv11) rfl rfl (by kernel_rfl) (by kernel_rfl) (by kernel_rfl) (by kernel_rfl) (by kernel_rfl) (fun _ _ _ h => h) (fun _ _ _ _ => True.intro) (untilL_set (by decide) (by decide)) (Or.inl ⟨by rfl, ?lhy11⟩) ⟨fun _ => co4d, fun _ => True.intro⟩ ?lrest11; case lhy11 => (intro w hSw; (try dsimp only at hSw); go_simp; (try with_reducible rfl)); (try simp only [Act.put, List.getElem_toArray, List.getElem_cons_zero, List.getElem_cons_succ, List.setIfInBounds_toArray, List.set_cons_zero, List.set_cons_succ])); (refine wpAnyL_take (S0 := (fun _ => True)) (i := 11) (q := 14) (v := ?lv12) rfl rfl (by kernel_rfl) (by kernel_rfl) (by kernel_rfl) (by kernel_rfl) (by kernel_rfl) (fun _ _ _ h => h) (fun _ _ _ _ => True.intro) (untilL_set (by decide) (by decide)) (Or.inl ⟨by rfl, ?lhy12⟩) ⟨fun _ => co4d, fun _ => True.intro⟩ ?lrest12; case lhy12 => (intro w hSw; (try dsimp only at hSw); go_simp; (try with_reducible rfl)); (try simp only [Act.put, List.getElem_toArray, List.getElem_cons_zero, List.getElem_cons_succ, List.setIfInBounds_toArray, List.set_cons_zero, List.set_cons_succ])); (refine wpAnyL_take (S0 := (fun _ => True)) (i := 12) (q := 13) (v := ?lv13) rfl rfl (by kernel_rfl) (by kernel_rfl) (by kernel_rfl) (by kernel_rfl) (by kernel_rfl) (fun _ _ _ h => h) (fun _ _ _ _ => True.intro) (untilL_set (by decide) (by decide)) (Or.inl ⟨by rfl, ?lhy13⟩) ⟨fun _ => co4d, fun _ => True.intro⟩ ?lrest13; case lhy13 => (intro w hSw; (try dsimp only at hSw); go_simp; (try with_reducible rfl)); (try simp only [Act.put, List.getElem_toArray, List.getElem_cons_zero, List.getElem_cons_succ, List.setIfInBounds_toArray, List.set_cons_zero, List.set_cons_succ])); (refine wpAnyL_take (S0 := (fun _ => True)) (i := 13) (q := 14) (v := ?lv14) rfl rfl (by kernel_rfl) (by kernel_rfl) (by kernel_rfl) (by kernel_rfl) (by kernel_rfl) (fun _ _ _ h => h) (fun _ _ _ _ => True.intro) (untilL_set (by decide) (by decide)) (Or.inl ⟨by rfl, ?lhy14⟩) ⟨fun _ => co4d, fun _ => True.intro⟩ ?lrest14; case lhy14 => (intro w hSw; (try dsimp only at hSw); go_simp; (try with_reducible rfl)); (try simp only [Act.put, List.getElem_toArray, List.getElem_cons_zero, List.getElem_cons_succ, List.setIfInBounds_toArray, List.set_cons_zero, List.set_cons_succ]))
          refine wpAnyL_ready (rs := [14]) (by kernel_rfl) (by simp) ?_; refine AllReadyL.cons (i := 14) rfl (fun K hK => ?_) AllReadyL.nil
          go_simp
          refine hK.out _ _ ⟨(fun h => Bool.noConfusion (show true = false from h)), (fun h => Bool.noConfusion (show true = false from h))⟩ (fun hHeld => ?_); clear hK K; (try simp only [Act.put, List.getElem_toArray, List.getElem_cons_zero, List.getElem_cons_succ, List.setIfInBounds_toArray, List.set_cons_zero, List.set_cons_succ])
          refine wpAnyL_done (by kernel_rfl) ?_ _; refine NoPanic.normal ?_
          have cu5 := H5.out.cu
          have us5 := (H5.out.us k hlt).1
          have fu5 := (H5.out.us k hlt).2
          have M6 := H5.out.setUsed k hlt false
          have H6 : SrchS lo bo bu n D w0 vc vf vl _ _ O vb4 (foldO F d O s b (k + 1)) := ⟨M6.fun (fun j hj => memO_back HMM.out j), H4.out.bn, H4.out.bs⟩
          have H6 := Lib.hid H6
          clear M6
          go_wp2_with fail
          go_roundw
          case rel => exact ⟨k + 1, by omega, by go_num, _, _, H6.out⟩
          case measure => simp [intOf]; omega
        · rcases hS.m.ow.shape with ⟨-, hnil⟩ | ⟨g1, cap1, rfl, hg1, hg2, hcap1, hml1, hcr1, -⟩
          · exact absurd hnil hne
          have hzl : (0 : Int) < (O.length : Int) := by have := List.length_pos_iff.2 hne; omega
          obtain ⟨e1, e2⟩ := lastI_at hO hne
          have xo := hcr1 (O.length - 1) (by omega)
          rw [e1] at xo
          have hx : (F.costs.getD (lastI O) []).getD k 0 = C := by have := HC2.out; rw [if_neg hne] at this; exact this.symm
          obtain ⟨q, Hq⟩ : ∃ q, Hid (lastI O = q) := ⟨_, rfl⟩
          rw [Hq.out] at e2 xo hx
          obtain ⟨b0, o0, cp0, evc, hcc⟩ := hR.cc
          obtain ⟨bi, oi, ci, -, -, xc, xr0⟩ := hcc q e2
          have xr := xr0 k hlt
          rw [hx] at xr
          clear xr0 hcc hcr1
          have c0 := hS.m.c0
          rw [evc] at c0
          have HMM := Lib.hid hm
          have hq0 : (0 : Int) ≤ (q : Int) := by omega
          have hq1 : (q : Int) < (n : Int) := by omega
          have hin0 : (0 : Int) ≤ ((O.length - 1 : Nat) : Int) := by omega
          have hin1 : ((O.length - 1 : Nat) : Int) < (O.length : Int) := by omega
          clear hne hx hR hC hn hm e1 evc
          go_wp2_with fail
          go_quiet (fail)
          clear hnb
          have hnb := HN.out
          have fu := (hS.m.us k hlt).2
          have HS := Lib.hid (hS.below ((Below.refl _ _).drN nq))
          have M1 := Lib.hid (HS.out.m.setUsed k hlt true)
          have hlo1 : lo ≤ wr.heap.size := by have h1 := hS.m.up.size; have h2 := hS.m.hlo; omega
          have hsz : ((wr.drewN nq).setCell ⟨bu, k, none⟩ (.bool true)).heap.size = wr.heap.size := by simp
          have HSZ := Lib.hid hsz
          clear hS hsz
          go_wp2_with (at_builtin; refine push_int_at rfl _ _ _ _ rfl Try.underlying28 infoI lo _ O (k : Int) ((wr.drewN nq).setCell ⟨bu, k, none⟩ (.bool true)) rfl (by rw [HSZ.out]; rfl) (by exact M1.out.ow) (by omega) (by rw [HSZ.out]; exact hlo1) ?_; intro v2 w2 ho2 hg2 hat2 hs2; refine stop_of ?_)
          unfold Stopped
          have M2 := M1.out.grow ho2 hg2 (by
            rcases hat2 with e | e
            · exact Or.inl e
            · refine Or.inr (fun q hq => ?_)
              rw [e] at hq
              simp only [Option.some.injEq] at hq
              omega)
          rcases ho2.shape with ⟨-, hnil⟩ | ⟨g2, cap2, rfl, -⟩
          · exact absurd hnil (by simp)
          have hlen4 : (O ++ [(k : Int)]).length = O.length + 1 := by simp
          rw [hlen4] at M2
          have HL4 := Lib.hid hlen4
          clear hlen4
          have co2 := M2.co
          have fo2 := M2.fo
          have M3 := M2.putO (by decide) (by decide) (.slice (some ⟨g2, 0, none⟩) (O.length + 1) cap2)
          have H3 : SrchS lo bo bu n D w0 vc vf vl _ _ (O ++ [(k : Int)]) vb' b' := ⟨M3.fun (fun j hj => (memO_snoc O k j).symm), HS.out.bn, HS.out.bs⟩
          have H3 := Lib.hid H3
          clear M2 M3 co cu us fu
          go_wp2_with fail
          refine (ih _ _ _ _ _ _ H3.out (hO.snoc hlt hmo.out) hl2 hsC hnb).mono ?_; rintro e w4 ⟨rfl, vo4, vb4, h4⟩
          rw [← HR.out] at h4
          rcases h4.m.ow.shape with ⟨-, hnil⟩ | ⟨g4, cap4, rfl, -, -, hcap4, hml4, -⟩
          · exact absurd hnil (by simp)
          have HT : Hid ((O ++ [(k : Int)]).take O.length = O) := by unfold Hid; simp
          have co4 := h4.m.co
          have fo4 := h4.m.fo
          rw [HL4.out] at co4 hcap4
          have co4d : w4.drew.cell? ⟨bo, 4, none⟩ = some (.slice (some ⟨g4, 0, none⟩) (O.length + 1) cap4) := co4
          have M5 := ((h4.m.short O.length (by rw [HL4.out]; omega)).putO (by decide) (by decide) (.slice (some ⟨g4, 0, none⟩) O.length cap4)).below ((Below.refl _ _).dr)
          rw [HT.out] at M5
          have H4 := Lib.hid h4
          have hm1 : (((O.length + 1 : Nat) : Int)) - 1 = (O.length : Int) := by omega
          have hm0 : (0 : Int) ≤ (O.length : Int) := by omega
          have hm2 : (O.length : Int) ≤ (cap4 : Int) := by omega
          unfold maxLen at hml4
          have hmw : IntKind.i64.wrap (O.length : Int) = (O.length : Int) := wraps_i64 _ hm0 (by omega)
          have H5 := Lib.hid M5
          clear M5 h4
          go_wp2_with fail
          
          refine wp_region_noPanic ?_; refine wp_region_L (S := untilL 14 14 (fun w' => w'.cell? ⟨bo, 4, none⟩ = some (.slice (some ⟨g4, 0, none⟩) (O.length + 1) cap4)) (fun _ => True)) (by kernel_rfl) ?_
          (refine wpAnyL_take (S0 := (fun _ => True)) (i := 0) (q := 12) (v := ?lv15) rfl rfl (by kernel_rfl) (by kernel_rfl) (by kernel_rfl) (by kernel_rfl) (by kernel_rfl) (fun _ _ _ h => h) (fun _ _ _ _ => True.intro) (untilL_set (by decide) (by decide)) (Or.inl ⟨by rfl, ?lhy15⟩) ⟨fun _ => co4d, fun _ => True.intro⟩ ?lrest15; case lhy15 => (intro w hSw; (try dsimp only at hSw); go_simp; (try with_reducible rfl)); (try simp only [Act.put, List.getElem_toArray, List.getElem_cons_zero, List.getElem_cons_succ, List.setIfInBounds_toArray, List.set_cons_zero, List.set_cons_succ])); (refine wpAnyL_take (S0 := (fun _ => True)) (i := 1) (q := 2) (v := ?lv16) rfl rfl (by kernel_rfl) (by kernel_rfl) (by kernel_rfl) (by kernel_rfl) (by kernel_rfl) (fun _ _ _ h => h) (fun _ _ _ _ => True.intro) (untilL_set (by decide) (by decide)) (Or.inl ⟨by rfl, ?lhy16⟩) ⟨fun _ => co4d, fun _ => True.intro⟩ ?lrest16; case lhy16 => (intro w hSw; (try dsimp only at hSw); go_simp; (try with_reducible rfl)); (try simp only [Act.put, List.getElem_toArray, List.getElem_cons_zero, List.getElem_cons_succ, List.setIfInBounds_toArray, List.set_cons_zero, List.set_cons_succ])); (refine wpAnyL_take (S0 := (fun _ => True)) (i := 2) (q := 3) (v := ?lv17) rfl rfl (by kernel_rfl) (by kernel_rfl) (by kernel_rfl) (by kernel_rfl) (by kernel_rfl) (fun _ _ _ h => h) (fun _ _ _ _ => True.intro) (untilL_set (by decide) (by decide)) (Or.inl ⟨by rfl, ?lhy17⟩) ⟨fun _ => co4d, fun _ => True.intro⟩ ?lrest17; case lhy17 => (intro w hSw; (try dsimp only at hSw); go_simp; (try with_reducible rfl)); (try simp only [Act.put, List.getElem_toArray, List.getElem_cons_zero, List.getElem_cons_succ, List.setIfInBounds_toArray, List.set_cons_zero, List.set_cons_succ])); (refine wpAnyL_take (S0 := (fun _ => True)) (i := 3) (q := 4) (v := ?lv18) rfl rfl (by kernel_rfl) (by kernel_rfl) (by kernel_rfl) (by kernel_rfl) (by kernel_rfl) (fun _ _ _ h => h) (fun _ _ _ _ => True.intro) (untilL_set (by decide) (by decide)) (Or.inl ⟨by rfl, ?lhy18⟩) ⟨fun _ => co4d, fun _ => True.intro⟩ ?lrest18; case lhy18 => (intro w hSw; (try dsimp only at hSw); go_simp; (try with_reducible rfl)); (try simp only [Act.put, List.getElem_toArray, List.getElem_cons_zero, List.getElem_cons_succ, List.setIfInBounds_toArray, List.set_cons_zero, List.set_cons_succ])); (refine wpAnyL_take (S0 := (fun w' => w'.cell? ⟨bo, 4, none⟩ = some (.slice (some ⟨g4, 0, none⟩) (O.length + 1) cap4))) (i := 4) (q := 14) (v := ?lv19) rfl rfl (by kernel_rfl) (by kernel_rfl) (by kernel_rfl) (by kernel_rfl) (by kernel_rfl) (fun _ _ _ h => h) (fun _ _ hq hS => hS.1 hq) (untilL_set (by decide) (by decide)) (Or.inl ⟨by rfl, ?lhy19⟩) ⟨fun _ => co4d, fun _ => True.intro⟩ ?lrest19; case lhy19 => (intro w hSw; (try dsimp only at hSw); go_simp; (try with_reducible rfl)); (try simp only [Act.put, List.getElem_toArray, List.getElem_cons_zero, List.getElem_cons_succ, List.setIfInBounds_toArray, List.set_cons_zero, List.set_cons_succ])); (refine wpAnyL_take (S0 := (fun _ => True)) (i := 5) (q := 6) (v := ?lv20) rfl rfl (by kernel_rfl) (by kernel_rfl) (by kernel_rfl) (by kernel_rfl) (by kernel_rfl) (fun _ _ _ h => h) (fun _ _ _ _ => True.intro) (untilL_set (by decide) (by decide)) (Or.inl ⟨by rfl, ?lhy20⟩) ⟨fun _ => co4d, fun _ => True.intro⟩ ?lrest20; case lhy20 => (intro w hSw; (try dsimp only at hSw); go_simp; (try with_reducible rfl)); (try simp only [Act.put, List.getElem_toArray, List.getElem_cons_zero, List.getElem_cons_succ, List.setIfInBounds_toArray, List.set_cons_zero, List.set_cons_succ])); (refine wpAnyL_take (S0 := (fun _ => True)) (i := 6) (q := 7) (v := ?lv21) rfl rfl (by kernel_rfl) (by kernel_rfl) (by kernel_rfl) (by kernel_rfl) (by kernel_rfl) (fun _ _ _ h => h) (fun _ _ _ _ => True.intro) (untilL_set (by decide) (by decide)) (Or.inl ⟨by rfl, ?lhy21⟩) ⟨fun _ => co4d, fun _ => True.intro⟩ ?lrest21; case lhy21 => (intro w hSw; (try dsimp only at hSw); go_simp; (try with_reducible rfl)); (try simp only [Act.put, List.getElem_toArray, List.getElem_cons_zero, List.getElem_cons_succ, List.setIfInBounds_toArray, List.set_cons_zero, List.set_cons_succ])); (refine wpAnyL_take (S0 := (fun _ => True)) (i := 7) (q := 8) (v := ?lv22) rfl rfl (by kernel_rfl) (by kernel_rfl) (by kernel_rfl) (by kernel_rfl) (by kernel_rfl) (fun _ _ _ h => h) (fun _ _ _ _ => True.intro) (untilL_set (by decide) (by decide)) (Or.inl ⟨by rfl, ?lhy22⟩) ⟨fun _ => co4d, fun _ => True.intro⟩ ?lrest22; case lhy22 => (intro w hSw; (try dsimp only at hSw); go_simp; (try with_reducible rfl)); (try simp only [Act.put, List.getElem_toArray, List.getElem_cons_zero, List.getElem_cons_succ, List.setIfInBounds_toArray, List.set_cons_zero, List.set_cons_succ])); (refine wpAnyL_take (S0 := (fun w' => w'.cell? ⟨bo, 4, none⟩ = some (.slice (some ⟨g4, 0, none⟩) (O.length + 1) cap4))) (i := 8) (q := 14) (v := ?lv23) rfl rfl (by kernel_rfl) (by kernel_rfl) (by kernel_rfl) (by kernel_rfl) (by kernel_rfl) (fun _ _ _ h => h) (fun _ _ hq hS => hS.1 hq) (untilL_set (by decide) (by decide)) (Or.inl ⟨by rfl, ?lhy23⟩) ⟨fun _ => co4d, fun _ => True.intro⟩ ?lrest23; case lhy23 => (intro w hSw; (try dsimp only at hSw); go_simp; (try with_reducible rfl)); (try simp only [Act.put, List.getElem_toArray, List.getElem_cons_zero, List.getElem_cons_succ, List.setIfInBounds_toArray, List.set_cons_zero, List.set_cons_succ])); (refine wpAnyL_take (S0 := (fun _ => True)) (i := 9) (q := 10) (v := ?lv24) rfl rfl (by kernel_rfl) (by kernel_rfl) (by kernel_rfl) (by kernel_rfl) (by kernel_rfl) (fun _ _ _ h => h) (fun _ _ _ _ => True.intro) (untilL_set (by decide) (by decide)) (Or.inl ⟨by rfl, ?lhy24⟩) ⟨fun _ => co4d, fun _ => True.intro⟩ ?lrest24; case lhy24 => (intro w hSw; (try dsimp only at hSw); go_simp; (try with_reducible rfl)); (try simp only [Act.put, List.getElem_toArray, List.getElem_cons_zero, List.getElem_cons_succ, List.setIfInBounds_toArray, List.set_cons_zero, List.set_cons_succ])); (refine wpAnyL_take (S0 := (fun _ => True)) (i := 10) (q := 11) (v := ?lv25) rfl rfl (by kernel_rfl) (by kernel_rfl) (by kernel_rfl) (by kernel_rfl) (by kernel_rfl) (fun _ _ _ h => h) (fun _ _ _ _ => True.intro) (untilL_set (by decide) (by decide)) (Or.inl ⟨by rfl, ?lhy25⟩) ⟨fun _ => co4d, fun _ => True.intro⟩ ?lrest25; case lhy25 => (intro w hSw; (try dsimp only at hSw); go_simp; (try with_reducible rfl)); (try simp only [Act.put, List.getElem_toArray, List.getElem_cons_zero, List.getElem_cons_succ, List.setIfInBounds_toArray, List.set_cons_zero, List.set_cons_succ])); (refine wpAnyL_take (S0 := (fun _ => True)) (i := 11) (q := 14) (v := ?lv26) rfl rfl (by kernel_rfl) (by kernel_rfl) (by kernel_rfl) (by kernel_rfl) (by kernel_rfl) (fun _ _ _ h => h) (fun _ _ _ _ => True.intro) (untilL_set (by decide) (by decide)) (Or.inl ⟨by rfl, ?lhy26⟩) ⟨fun _ => co4d, fun _ => True.intro⟩ ?lrest26; case lhy26 => (intro w hSw; (try dsimp only at hSw); go_simp; (try with_reducible rfl)); (try simp only [Act.put, List.getElem_toArray, List.getElem_cons_zero, List.getElem_cons_succ, List.setIfInBounds_toArray, List.set_cons_zero, List.set_cons_succ])); (refine wpAnyL_take (S0 := (fun _ => True)) (i := 12) (q := 13) (v := ?lv27) rfl rfl (by kernel_rfl) (by kernel_rfl) (by kernel_rfl) (by kernel_rfl) (by kernel_rfl) (fun _ _ _ h => h) (fun _ _ _ _ => True.intro) (untilL_set (by decide) (by decide)) (Or.inl ⟨by rfl, ?lhy27⟩) ⟨fun _ => co4d, fun _ => True.intro⟩ ?lrest27; case lhy27 => (intro w hSw; (try dsimp only at hSw); go_simp; (try with_reducible rfl)); (try simp only [Act.put, List.getElem_toArray, List.getElem_cons_zero, List.getElem_cons_succ, List.setIfInBounds_toArray, List.set_cons_zero, List.set_cons_succ])); (refine wpAnyL_take (S0 := (fun _ => True)) (i := 13) (q := 14) (v := ?lv28) rfl rfl (by kernel_rfl) (by kernel_rfl) (by kernel_rfl) (by kernel_rfl) (by kernel_rfl) (fun _ _ _ h => h) (fun _ _ _ _ => True.intro) (untilL_set (by decide) (by decide)) (Or.inl ⟨by rfl, ?lhy28⟩) ⟨fun _ => co4d, fun _ => True.intro⟩ ?lrest28; case lhy28 => (intro w hSw; (try dsimp only at hSw); go_simp; (try with_reducible rfl)); (try simp only [Act.put, List.getElem_toArray, List.getElem_cons_zero, List.getElem_cons_succ, List.setIfInBounds_toArray, List.set_cons_zero, List.set_cons_succ]))
          refine wpAnyL_ready (rs := [14]) (by kernel_rfl) (by simp) ?_; refine AllReadyL.cons (i := 14) rfl (fun K hK => ?_) AllReadyL.nil
          go_simp
          refine hK.out _ _ ⟨(fun h => Bool.noConfusion (show true = false from h)), (fun h => Bool.noConfusion (show true = false from h))⟩ (fun hHeld => ?_); clear hK K; (try simp only [Act.put, List.getElem_toArray, List.getElem_cons_zero, List.getElem_cons_succ, List.setIfInBounds_toArray, List.set_cons_zero, List.set_cons_succ])
          refine wpAnyL_done (by kernel_rfl) ?_ _; refine NoPanic.normal ?_
          have cu5 := H5.out.cu
          have us5 := (H5.out.us k hlt).1
          have fu5 := (H5.out.us k hlt).2
          have M6 := H5.out.setUsed k hlt false
          have H6 : SrchS lo bo bu n D w0 vc vf vl _ _ O vb4 (foldO F d O s b (k + 1)) := ⟨M6.fun (fun j hj => memO_back HMM.out j), H4.out.bn, H4.out.bs⟩
          have H6 := Lib.hid H6
          clear M6
          go_wp2_with fail
          go_roundw
          case rel => exact ⟨k + 1, by omega, by go_num, _, _, H6.out⟩
          case measure => simp [intOf]; omega
      · have HR : Hid (foldO F d O s b (k + 1) = foldO F d O s b k) := by unfold Hid; rw [foldO_succ]; unfold roundO; rw [if_pos (by simpa [memO] using hm)]
        rw [hm] at us
        have HS := Lib.hid hS
        clear hm hS
        go_wp2_with fail
        go_roundw
        case rel => exact ⟨k + 1, by omega, by go_num, _, _, by rw [HR.out]; exact HS.out⟩
        case measure => simp [intOf]; omega
    · obtain rfl : k = n := by omega
      have HS := Lib.hid hS
      clear hS
      go_wp2
      go_end0
      exact ⟨rfl, vo', vb', by rw [HW.out]; exact HS.out⟩
set_option maxHeartbeats 8000000 in
set_option maxRecDepth 100000 in
/-- the search goes through all places that may be the next one -/
theorem c_spec_walk_node1 (lo bo bu n : Nat) (D : Nat → Prop) (w0 : World) (vc vf vl : Value) (F : Far) (hF : RdFar D n w0 vc vf vl F) (hB : BdF F n) (d : Nat)
    (ih : ∀ (O : List Int) (s : Int) (vo vb : Value) (b : Option (List Int × Int)) (w : World), SrchS lo bo bu n D w0 vc vf vl w vo O vb b → PathO n O → O.length + d = n → (0 ≤ s ∧ s ≤ 1000000 * (O.length : Int)) → NnO b →
      Calls Try.prog 42 #[.pointer (some ⟨bo, 0, none⟩), .int .i64 s] w fun e w' => e = .returned (.tuple #[]) ∧ ∃ vo' vb', SrchS lo bo bu n D w0 vc vf vl w' vo' O vb' (walkO F d O s b))
    (O : List Int) (s : Int) (vo vb : Value) (b : Option (List Int × Int)) (w : World)
    (h : SrchS lo bo bu n D w0 vc vf vl w vo O vb b) (hO : PathO n O) (hl : O.length + (d + 1) = n) (hs : 0 ≤ s ∧ s ≤ 1000000 * (O.length : Int)) (hb : NnO b) (hcut : cutO b s = false) (hP0 : 0 ≤ lstO (-1) b ∧ s < lstO (-1) b) :
    Calls Try.prog 42 #[.pointer (some ⟨bo, 0, none⟩), .int .i64 s] w fun e w' => e = .returned (.tuple #[]) ∧ ∃ vo' vb', SrchS lo bo bu n D w0 vc vf vl w' vo' O vb' (walkO F (d + 1) O s b) := by
  have hn := hB.hn
  have HW := Lib.hid (walkO_succ F d O s b hcut)
  rw [hB.hf] at HW
  have HFN := Lib.hid (foldO_nn hB hl hs hb)
  have c1 := h.m.c1
  have c6 := h.m.c6
  have hR := hF.upd h.m.up
  obtain ⟨bf, of, cf, evf, df, -⟩ := hR.ff
  rw [evf] at c1
  obtain ⟨ao, cap, hvo, -, -⟩ := h.m.ow.rd
  have co := h.m.co
  rw [hvo] at co
  have HH := Lib.hid h
  have hln : O.length < n := by omega
  have hl2 : (O ++ [(0 : Int)]).length + d = n := by rw [List.length_append, List.length_singleton]; omega
  have hs0 := hs.1
  have hs1 : s ≤ 7000000 := by omega
  obtain ⟨P, HP⟩ : ∃ P, Hid (lstO (-1) b = P) := ⟨_, rfl⟩
  rw [HP.out] at c6
  rw [HP.out] at hP0
  clear h hR hb hcut hvo evf
  have hn1 := hn.1
  have hn2 := hn.2
  have hlm : O.length ≤ 8 := by omega
  first
    | (have hp9 := hP0.2; have hdec : decide (P ≤ s) = false := by rw [decide_eq_false_iff_not]; omega)
    | skip
  have hdec2 : ((O.length : Int) == (n : Int)) = false := by rw [beq_eq_false_iff_ne]; omega
  go_enter Try.func42, Try.ntmps42
  go_wp2_with fail
  go_loopw [6] (fun kv wr => ∃ k : Nat, k ≤ n ∧ kv = .int .i64 k ∧ ∃ vo' vb', SrchS lo bo bu n D w0 vc vf vl wr vo' O vb' (foldO F d O s b k)) (fun kv _ => n - (intOf kv).toNat)
  case atStart => exact ⟨0, by omega, rfl, vo, vb, HH.out⟩
  case round =>
    obtain ⟨k, hk, rfl, vo', vb', hS⟩ := hrel
    by_cases hlt : k < n
    · have cu := hS.m.cu
      have us := (hS.m.us k hlt).1
      have hk0 : (0 : Int) ≤ (k : Int) := by omega
      have hk1 : (k : Int) < (n : Int) := by omega
      cases hm : memO O k
      · have hmo : Hid ((k : Int) ∉ O) := by unfold Hid; simpa [memO] using hm
        have HR : Hid (foldO F d O s b (k + 1) = walkO F d (O ++ [(k : Int)]) (s + costO F O k) (foldO F d O s b k)) := by unfold Hid; rw [foldO_succ]; unfold roundO; rw [if_neg hmo.out]
        have hnb := HFN.out k
        obtain ⟨b', Hb'⟩ : ∃ b', Hid (foldO F d O s b k = b') := ⟨_, rfl⟩
        rw [Hb'.out] at hS HR hnb
        rw [hm] at us
        have hC := hB.hc O k
        have HC2 : Hid (costO F O k = if O = [] then F.first.getD k 0 else (F.costs.getD (lastI O) []).getD k 0) := rfl
        obtain ⟨C, HC⟩ : ∃ C, Hid (costO F O k = C) := ⟨_, rfl⟩
        rw [HC.out] at hC HR HC2
        have hC0 := hC.1
        have hC1 := hC.2
        have hl2 : (O ++ [(k : Int)]).length + d = n := by rw [List.length_append, List.length_singleton]; omega
        have hsC : 0 ≤ s + C ∧ s + C ≤ 1000000 * ((O ++ [(k : Int)]).length : Int) := by rw [List.length_append, List.length_singleton]; omega
        have HN := Lib.hid hnb
        have hR := hF.upd hS.m.up
        obtain ⟨bf2, of2, cf2, evf2, df2, xf0⟩ := hR.ff
        have xf := xf0 k hlt
        clear xf0
        have hne1 := hS.m.ne
        have hne2 : bu ≠ bo := fun e => hne1 e.symm
        have c1 := hS.m.c1
        rw [evf2] at c1
        have co := hS.m.co
        by_cases hne : O = []
        · obtain ⟨ao', cap', rfl, -, -⟩ := hS.m.ow.rd
          have hzl : ¬ (0 : Int) < (O.length : Int) := by rw [hne]; simp
          have hx : F.first.getD k 0 = C := by have := HC2.out; rw [if_pos hne] at this; exact this.symm
          rw [hx] at xf
          have HNE := Lib.hid hne
          have HMM := Lib.hid hm
          clear hne hx hR hC hn hm hk0 hk1
          clear hnb
          have hnb := HN.out
          have fu := (hS.m.us k hlt).2
          have HS := Lib.hid (hS.below (Below.refl _ _))
          have M1 := Lib.hid (HS.out.m.setUsed k hlt true)
          have hlo1 : lo ≤ wr.heap.size := by have h1 := hS.m.up.size; have h2 := hS.m.hlo; omega
          have hsz : (wr.setCell ⟨bu, k, none⟩ (.bool true)).heap.size = wr.heap.size := by simp
          have HSZ := Lib.hid hsz
          clear hS hsz
          go_wp2_with (at_builtin; refine push_int_at rfl _ _ _ _ rfl Try.underlying28 infoI lo _ O (k : Int) (wr.setCell ⟨bu, k, none⟩ (.bool true)) rfl (by rw [HSZ.out]; rfl) (by exact M1.out.ow) (by omega) (by rw [HSZ.out]; exact hlo1) ?_; intro v2 w2 ho2 hg2 hat2 hs2; refine stop_of ?_)
          unfold Stopped
          have M2 := M1.out.grow ho2 hg2 (by
            rcases hat2 with e | e
            · exact Or.inl e
            · refine Or.inr (fun q hq => ?_)
              rw [e] at hq
              simp only [Option.some.injEq] at hq
              omega)
          rcases ho2.shape with ⟨-, hnil⟩ | ⟨g2, cap2, rfl, -⟩
          · exact absurd hnil (by simp)
          have hlen4 : (O ++ [(k : Int)]).length = O.length + 1 := by simp
          rw [hlen4] at M2
          have HL4 := Lib.hid hlen4
          clear hlen4
          have co2 := M2.co
          have fo2 := M2.fo
          have M3 := M2.putO (by decide) (by decide) (.slice (some ⟨g2, 0, none⟩) (O.length + 1) cap2)
          have H3 : SrchS lo bo bu n D w0 vc vf vl _ _ (O ++ [(k : Int)]) vb' b' := ⟨M3.fun (fun j hj => (memO_snoc O k j).symm), HS.out.bn, HS.out.bs⟩
          have H3 := Lib.hid H3
          clear M2 M3 co cu us fu
          go_wp2_with fail
          refine (ih _ _ _ _ _ _ H3.out (hO.snoc hlt hmo.out) hl2 hsC hnb).mono ?_; rintro e w4 ⟨rfl, vo4, vb4, h4⟩
          rw [← HR.out] at h4
          rcases h4.m.ow.shape with ⟨-, hnil⟩ | ⟨g4, cap4, rfl, -, -, hcap4, hml4, -⟩
          · exact absurd hnil (by simp)
          have HT : Hid ((O ++ [(k : Int)]).take O.length = O) := by unfold Hid; simp
          have co4 := h4.m.co
          have fo4 := h4.m.fo
          rw [HL4.out] at co4 hcap4
          have co4d : w4.drew.cell? ⟨bo, 4, none⟩ = some (.slice (some ⟨g4, 0, none⟩) (O.length + 1) cap4) := co4
          have M5 := ((h4.m.short O.length (by rw [HL4.out]; omega)).putO (by decide) (by decide) (.slice (some ⟨g4, 0, none⟩) O.length cap4)).below ((Below.refl _ _).dr)
          rw [HT.out] at M5
          have H4 := Lib.hid h4
          have hm1 : (((O.length + 1 : Nat) : Int)) - 1 = (O.length : Int) := by omega
          have hm0 : (0 : Int) ≤ (O.length : Int) := by omega
          have hm2 : (O.length : Int) ≤ (cap4 : Int) := by omega
          unfold maxLen at hml4
          have hmw : IntKind.i64.wrap (O.length : Int) = (O.length : Int) := wraps_i64 _ hm0 (by omega)
          have H5 := Lib.hid M5
          clear M5 h4
          go_wp2_with fail
          
          refine wp_region_noPanic ?_; refine wp_region_L (S := untilL 14 14 (fun w' => w'.cell? ⟨bo, 4, none⟩ = some (.slice (some ⟨g4, 0, none⟩) (O.length + 1) cap4)) (fun _ => True)) (by kernel_rfl) ?_
          (refine wpAnyL_take (S0 := (fun _ => True)) (i := 0) (q := 12) (v := ?lv29) rfl rfl (by kernel_rfl) (by kernel_rfl) (by kernel_rfl) (by kernel_rfl) (by kernel_rfl) (fun _ _ _ h => h) (fun _ _ _ _ => True.intro) (untilL_set (by decide) (by decide)) (Or.inl ⟨by rfl, ?lhy29⟩) ⟨fun _ => co4d, fun _ => True.intro⟩ ?lrest29; case lhy29 => (intro w hSw; (try dsimp only at hSw); go_simp; (try with_reducible rfl)); (try simp only [Act.put, List.getElem_toArray, List.getElem_cons_zero, List.getElem_cons_succ, List.setIfInBounds_toArray, List.set_cons_zero, List.set_cons_succ])); (refine wpAnyL_take (S0 := (fun _ => True)) (i := 1) (q := 2) (v := ?lv30) rfl rfl (by kernel_rfl) (by kernel_rfl) (by kernel_rfl) (by kernel_rfl) (by kernel_rfl) (fun _ _ _ h => h) (fun _ _ _ _ => True.intro) (untilL_set (by decide) (by decide)) (Or.inl ⟨by rfl, ?lhy30⟩) ⟨fun _ => co4d, fun _ => True.intro⟩ ?lrest30; case lhy30 => (intro w hSw; (try dsimp only at hSw); go_simp; (try with_reducible rfl)); (try simp only [Act.put, List.getElem_toArray, List.getElem_cons_zero, List.getElem_cons_succ, List.setIfInBounds_toArray, List.set_cons_zero, List.set_cons_succ])); (refine wpAnyL_take (S0 := (fun _ => True)) (i := 2) (q := 3) (v := ?lv31) rfl rfl (by kernel_rfl) (by kernel_rfl) (by kernel_rfl) (by kernel_rfl) (by kernel_rfl) (fun _ _ _ h => h) (fun _ _ _ _ => True.intro) (untilL_set (by decide) (by decide)) (Or.inl ⟨by rfl, ?lhy31⟩) ⟨fun _ => co4d, fun _ => True.intro⟩ ?lrest31; case lhy31 => (intro w hSw; (try dsimp only at hSw); go_simp; (try with_reducible rfl)); (try simp only [Act.put, List.getElem_toArray, List.getElem_cons_zero, List.getElem_cons_succ, List.setIfInBounds_toArray, List.set_cons_zero, List.set_cons_succ])); (refine wpAnyL_take (S0 := (fun _ => True)) (i := 3) (q := 4) (v := ?lv32) rfl rfl (by kernel_rfl) (by kernel_rfl) (by kernel_rfl) (by kernel_rfl) (by kernel_rfl) (fun _ _ _ h => h) (fun _ _ _ _ => True.intro) (untilL_set (by decide) (by decide)) (Or.inl ⟨by rfl, ?lhy32⟩) ⟨fun _ => co4d, fun _ => True.intro⟩ ?lrest32; case lhy32 => (intro w hSw; (try dsimp only at hSw); go_simp; (try with_reducible rfl)); (try simp only [Act.put, List.getElem_toArray, List.getElem_cons_zero, List.getElem_cons_succ, List.setIfInBounds_toArray, List.set_cons_zero, List.set_cons_succ])); (refine wpAnyL_take (S0 := (fun w' => w'.cell? ⟨bo, 4, none⟩ = some (.slice (some ⟨g4, 0, none⟩) (O.length + 1) cap4))) (i := 4) (q := 14) (v := ?lv33) rfl rfl (by kernel_rfl) (by kernel_rfl) (by kernel_rfl) (by kernel_rfl) (by kernel_rfl) (fun _ _ _ h => h) (fun _ _ hq hS => hS.1 hq) (untilL_set (by decide) (by decide)) (Or.inl ⟨by rfl, ?lhy33⟩) ⟨fun _ => co4d, fun _ => True.intro⟩ ?lrest33; case lhy33 => (intro w hSw; (try dsimp only at hSw); go_simp; (try with_reducible rfl)); (try simp only [Act.put, List.getElem_toArray, List.getElem_cons_zero, List.getElem_cons_succ, List.setIfInBounds_toArray, List.set_cons_zero, List.set_cons_succ])); (refine wpAnyL_take (S0 := (fun _ => True)) (i := 5) (q := 6) (v := ?lv34) rfl rfl (by kernel_rfl) (by kernel_rfl) (by kernel_rfl) (by kernel_rfl) (by kernel_rfl) (fun _ _ _ h => h) (fun _ _ _ _ => True.intro) (untilL_set (by decide) (by decide)) (Or.inl ⟨by rfl, ?lhy34⟩) ⟨fun _ => co4d, fun _ => True.intro⟩ ?lrest34; case lhy34 => (intro w hSw; (try dsimp only at hSw); go_simp; (try with_reducible rfl)); (try simp only [Act.put, List.getElem_toArray, List.getElem_cons_zero, List.getElem_cons_succ, List.setIfInBounds_toArray, List.set_cons_zero, List.set_cons_succ])); (refine wpAnyL_take (S0 := (fun _ => True)) (i := 6) (q := 7) (v := ?lv35) rfl rfl (by kernel_rfl) (by kernel_rfl) (by kernel_rfl) (by kernel_rfl) (by kernel_rfl) (fun _ _ _ h => h) (fun _ _ _ _ => True.intro) (untilL_set (by decide) (by decide)) (Or.inl ⟨by rfl, ?lhy35⟩) ⟨fun _ => co4d, fun _ => True.intro⟩ ?lrest35; case lhy35 => (intro w hSw; (try dsimp only at hSw); go_simp; (try with_reducible rfl)); (try simp only [Act.put, List.getElem_toArray, List.getElem_cons_zero, List.getElem_cons_succ, List.setIfInBounds_toArray, List.set_cons_zero, List.set_cons_succ])); (refine wpAnyL_take (S0 := (fun _ => True)) (i := 7) (q := 8) (v := ?lv36) rfl rfl (by kernel_rfl) (by kernel_rfl) (by kernel_rfl) (by kernel_rfl) (by kernel_rfl) (fun _ _ _ h => h) (fun _ _ _ _ => True.intro) (untilL_set (by decide) (by decide)) (Or.inl ⟨by rfl, ?lhy36⟩) ⟨fun _ => co4d, fun _ => True.intro⟩ ?lrest36; case lhy36 => (intro w hSw; (try dsimp only at hSw); go_simp; (try with_reducible rfl)); (try simp only [Act.put, List.getElem_toArray, List.getElem_cons_zero, List.getElem_cons_succ, List.setIfInBounds_toArray, List.set_cons_zero, List.set_cons_succ])); (refine wpAnyL_take (S0 := (fun w' => w'.cell? ⟨bo, 4, none⟩ = some (.slice (some ⟨g4, 0, none⟩) (O.length + 1) cap4))) (i := 8) (q := 14) (v := ?lv37) rfl rfl (by kernel_rfl) (by kernel_rfl) (by kernel_rfl) (by kernel_rfl) (by kernel_rfl) (fun _ _ _ h => h) (fun _ _ hq hS => hS.1 hq) (untilL_set (by decide) (by decide)) (Or.inl ⟨by rfl, ?lhy37⟩) ⟨fun _ => co4d, fun _ => True.intro⟩ ?lrest37; case lhy37 => (intro w hSw; (try dsimp only at hSw); go_simp; (try with_reducible rfl)); (try simp only [Act.put, List.getElem_toArray, List.getElem_cons_zero, List.getElem_cons_succ, List.setIfInBounds_toArray, List.set_cons_zero, List.set_cons_succ])); (refine wpAnyL_take (S0 := (fun _ => True)) (i := 9) (q := 10) (v := ?lv38) rfl rfl (by kernel_rfl) (by kernel_rfl) (by kernel_rfl) (by kernel_rfl) (by kernel_rfl) (fun _ _ _ h => h) (fun _ _ _ _ => True.intro) (untilL_set (by decide) (by decide)) (Or.inl ⟨by rfl, ?lhy38⟩) ⟨fun _ => co4d, fun _ => True.intro⟩ ?lrest38; case lhy38 => (intro w hSw; (try dsimp only at hSw); go_simp; (try with_reducible rfl)); (try simp only [Act.put, List.getElem_toArray, List.getElem_cons_zero, List.getElem_cons_succ, List.setIfInBounds_toArray, List.set_cons_zero, List.set_cons_succ])); (refine wpAnyL_take (S0 := (fun _ => True)) (i := 10) (q := 11) (v := ?lv39) rfl rfl (by kernel_rfl) (by kernel_rfl) (by kernel_rfl) (by kernel_rfl) (by kernel_rfl) (fun _ _ _ h => h) (fun _ _ _ _ => True.intro) (untilL_set (by decide) (by decide)) (Or.inl ⟨by rfl, ?lhy39⟩) ⟨fun _ => co4d, fun _ => True.intro⟩ ?lrest39; case lhy39 => (intro w hSw; (try dsimp only at hSw); go_simp; (try with_reducible rfl)); (try simp only [Act.put, List.getElem_toArray, List.getElem_cons_zero, List.getElem_cons_succ, List.setIfInBounds_toArray, List.set_cons_zero, List.set_cons_succ])); (refine wpAnyL_take (S0 := (fun _ => True)) (i := 11) (q := 14) (v := ?lv40) rfl rfl (by kernel_rfl) (by kernel_rfl) (by kernel_rfl) (by kernel_rfl) (by kernel_rfl) (fun _ _ _ h => h) (fun _ _ _ _ => True.intro) (untilL_set (by decide) (by decide)) (Or.inl ⟨by rfl, ?lhy40⟩) ⟨fun _ => co4d, fun _ => True.intro⟩ ?lrest40; case lhy40 => (intro w hSw; (try dsimp only at hSw); go_simp; (try with_reducible rfl)); (try simp only [Act.put, List.getElem_toArray, List.getElem_cons_zero, List.getElem_cons_succ, List.setIfInBounds_toArray, List.set_cons_zero, List.set_cons_succ])); (refine wpAnyL_take (S0 := (fun _ => True)) (i := 12) (q := 13) (v := ?lv41) rfl rfl (by kernel_rfl) (by kernel_rfl) (by kernel_rfl) (by kernel_rfl) (by kernel_rfl) (fun _ _ _ h => h) (fun _ _ _ _ => True.intro) (untilL_set (by decide) (by decide)) (Or.inl ⟨by rfl, ?lhy41⟩) ⟨fun _ => co4d, fun _ => True.intro⟩ ?lrest41; case lhy41 => (intro w hSw; (try dsimp only at hSw); go_simp; (try with_reducible rfl)); (try simp only [Act.put, List.getElem_toArray, List.getElem_cons_zero, List.getElem_cons_succ, List.setIfInBounds_toArray, List.set_cons_zero, List.set_cons_succ])); (refine wpAnyL_take (S0 := (fun _ => True)) (i := 13) (q := 14) (v := ?lv42) rfl rfl (by kernel_rfl) (by kernel_rfl) (by kernel_rfl) (by kernel_rfl) (by kernel_rfl) (fun _ _ _ h => h) (fun _ _ _ _ => True.intro) (untilL_set (by decide) (by decide)) (Or.inl ⟨by rfl, ?lhy42⟩) ⟨fun _ => co4d, fun _ => True.intro⟩ ?lrest42; case lhy42 => (intro w hSw; (try dsimp only at hSw); go_simp; (try with_reducible rfl)); (try simp only [Act.put, List.getElem_toArray, List.getElem_cons_zero, List.getElem_cons_succ, List.setIfInBounds_toArray, List.set_cons_zero, List.set_cons_succ]))
          refine wpAnyL_ready (rs := [14]) (by kernel_rfl) (by simp) ?_; refine AllReadyL.cons (i := 14) rfl (fun K hK => ?_) AllReadyL.nil
          go_simp
          refine hK.out _ _ ⟨(fun h => Bool.noConfusion (show true = false from h)), (fun h => Bool.noConfusion (show true = false from h))⟩ (fun hHeld => ?_); clear hK K; (try simp only [Act.put, List.getElem_toArray, List.getElem_cons_zero, List.getElem_cons_succ, List.setIfInBounds_toArray, List.set_cons_zero, List.set_cons_succ])
          refine wpAnyL_done (by kernel_rfl) ?_ _; refine NoPanic.normal ?_
          have cu5 := H5.out.cu
          have us5 := (H5.out.us k hlt).1
          have fu5 := (H5.out.us k hlt).2
          have M6 := H5.out.setUsed k hlt false
          have H6 : SrchS lo bo bu n D w0 vc vf vl _ _ O vb4 (foldO F d O s b (k + 1)) := ⟨M6.fun (fun j hj => memO_back HMM.out j), H4.out.bn, H4.out.bs⟩
          have H6 := Lib.hid H6
          clear M6
          go_wp2_with fail
          go_roundw
          case rel => exact ⟨k + 1, by omega, by go_num, _, _, H6.out⟩
          case measure => simp [intOf]; omega
        · rcases hS.m.ow.shape with ⟨-, hnil⟩ | ⟨g1, cap1, rfl, hg1, hg2, hcap1, hml1, hcr1, -⟩
          · exact absurd hnil hne
          have hzl : (0 : Int) < (O.length : Int) := by have := List.length_pos_iff.2 hne; omega
          obtain ⟨e1, e2⟩ := lastI_at hO hne
          have xo := hcr1 (O.length - 1) (by omega)
          rw [e1] at xo
          have hx : (F.costs.getD (lastI O) []).getD k 0 = C := by have := HC2.out; rw [if_neg hne] at this; exact this.symm
          obtain ⟨q, Hq⟩ : ∃ q, Hid (lastI O = q) := ⟨_, rfl⟩
          rw [Hq.out] at e2 xo hx
          obtain ⟨b0, o0, cp0, evc, hcc⟩ := hR.cc
          obtain ⟨bi, oi, ci, -, -, xc, xr0⟩ := hcc q e2
          have xr := xr0 k hlt
          rw [hx] at xr
          clear xr0 hcc hcr1
          have c0 := hS.m.c0
          rw [evc] at c0
          have HMM := Lib.hid hm
          have hq0 : (0 : Int) ≤ (q : Int) := by omega
          have hq1 : (q : Int) < (n : Int) := by omega
          have hin0 : (0 : Int) ≤ ((O.length - 1 : Nat) : Int) := by omega
          have hin1 : ((O.length - 1 : Nat) : Int) < (O.length : Int) := by omega
          clear hne hx hR hC hn hm e1 evc
          go_wp2_with fail
          go_quiet (fail)
          clear hnb
          have hnb := HN.out
          have fu := (hS.m.us k hlt).2
          have HS := Lib.hid (hS.below ((Below.refl _ _).drN nq))
          have M1 := Lib.hid (HS.out.m.setUsed k hlt true)
          have hlo1 : lo ≤ wr.heap.size := by have h1 := hS.m.up.size; have h2 := hS.m.hlo; omega
          have hsz : ((wr.drewN nq).setCell ⟨bu, k, none⟩ (.bool true)).heap.size = wr.heap.size := by simp
          have HSZ := Lib.hid hsz
          clear hS hsz
          go_wp2_with (at_builtin; refine push_int_at rfl _ _ _ _ rfl Try.underlying28 infoI lo _ O (k : Int) ((wr.drewN nq).setCell ⟨bu, k, none⟩ (.bool true)) rfl (by rw [HSZ.out]; rfl) (by exact M1.out.ow) (by omega) (by rw [HSZ.out]; exact hlo1) ?_; intro v2 w2 ho2 hg2 hat2 hs2; refine stop_of ?_)
          unfold Stopped
          have M2 := M1.out.grow ho2 hg2 (by
            rcases hat2 with e | e
            · exact Or.inl e
            · refine Or.inr (fun q hq => ?_)
              rw [e] at hq
              simp only [Option.some.injEq] at hq
              omega)
          rcases ho2.shape with ⟨-, hnil⟩ | ⟨g2, cap2, rfl, -⟩
          · exact absurd hnil (by simp)
          have hlen4 : (O ++ [(k : Int)]).length = O.length + 1 := by simp
          rw [hlen4] at M2
          have HL4 := Lib.hid hlen4
          clear hlen4
          have co2 := M2.co
          have fo2 := M2.fo
          have M3 := M2.putO (by decide) (by decide) (.slice (some ⟨g2, 0, none⟩) (O.length + 1) cap2)
          have H3 : SrchS lo bo bu n D w0 vc vf vl _ _ (O ++ [(k : Int)]) vb' b' := ⟨M3.fun (fun j hj => (memO_snoc O k j).symm), HS.out.bn, HS.out.bs⟩
          have H3 := Lib.hid H3
          clear M2 M3 co cu us fu
          go_wp2_with fail
          refine (ih _ _ _ _ _ _ H3.out (hO.snoc hlt hmo.out) hl2 hsC hnb).mono ?_; rintro e w4 ⟨rfl, vo4, vb4, h4⟩
          rw [← HR.out] at h4
          rcases h4.m.ow.shape with ⟨-, hnil⟩ | ⟨g4, cap4, rfl, -, -, hcap4, hml4, -⟩
          · exact absurd hnil (by simp)
          have HT : Hid ((O ++ [(k : Int)]).take O.length = O) := by unfold Hid; simp
          have co4 := h4.m.co
          have fo4 := h4.m.fo
          rw [HL4.out] at co4 hcap4
          have co4d : w4.drew.cell? ⟨bo, 4, none⟩ = some (.slice (some ⟨g4, 0, none⟩) (O.length + 1) cap4) := co4
          have M5 := ((h4.m.short O.length (by rw [HL4.out]; omega)).putO (by decide) (by decide) (.slice (some ⟨g4, 0, none⟩) O.length cap4)).below ((Below.refl _ _).dr)
          rw [HT.out] at M5
          have H4 := Lib.hid h4
          have hm1 : (((O.length + 1 : Nat) : Int)) - 1 = (O.length : Int) := by omega
          have hm0 : (0 : Int) ≤ (O.length : Int) := by omega
          have hm2 : (O.length : Int) ≤ (cap4 : Int) := by omega
          unfold maxLen at hml4
          have hmw : IntKind.i64.wrap (O.length : Int) = (O.length : Int) := wraps_i64 _ hm0 (by omega)
          have H5 := Lib.hid M5
          clear M5 h4
          go_wp2_with fail
          
          refine wp_region_noPanic ?_; refine wp_region_L (S := untilL 14 14 (fun w' => w'.cell? ⟨bo, 4, none⟩ = some (.slice (some ⟨g4, 0, none⟩) (O.length + 1) cap4)) (fun _ => True)) (by kernel_rfl) ?_
          (refine wpAnyL_take (S0 := (fun _ => True)) (i := 0) (q := 12) (v := ?lv43) rfl rfl (by kernel_rfl) (by kernel_rfl) (by kernel_rfl) (by kernel_rfl) (by kernel_rfl) (fun _ _ _ h => h) (fun _ _ _ _ => True.intro) (untilL_set (by decide) (by decide)) (Or.inl ⟨by rfl, ?lhy43⟩) ⟨fun _ => co4d, fun _ => True.intro⟩ ?lrest43; case lhy43 => (intro w hSw; (try dsimp only at hSw); go_simp; (try with_reducible rfl)); (try simp only [Act.put, List.getElem_toArray, List.getElem_cons_zero, List.getElem_cons_succ, List.setIfInBounds_toArray, List.set_cons_zero, List.set_cons_succ])); (refine wpAnyL_take (S0 := (fun _ => True)) (i := 1) (q := 2) (v := ?lv44) rfl rfl (by kernel_rfl) (by kernel_rfl) (by kernel_rfl) (by kernel_rfl) (by kernel_rfl) (fun _ _ _ h => h) (fun _ _ _ _ => True.intro) (untilL_set (by decide) (by decide)) (Or.inl ⟨by rfl, ?lhy44⟩) ⟨fun _ => co4d, fun _ => True.intro⟩ ?lrest44; case lhy44 => (intro w hSw; (try dsimp only at hSw); go_simp; (try with_reducible rfl)); (try simp only [Act.put, List.getElem_toArray, List.getElem_cons_zero, List.getElem_cons_succ, List.setIfInBounds_toArray, List.set_cons_zero, List.set_cons_succ])); (refine wpAnyL_take (S0 := (fun _ => True)) (i := 2) (q := 3) (v := ?lv45) rfl rfl (by kernel_rfl) (by kernel_rfl) (by kernel_rfl) (by kernel_rfl) (by kernel_rfl) (fun _ _ _ h => h) (fun _ _ _ _ => True.intro) (untilL_set (by decide) (by decide)) (Or.inl ⟨by rfl, ?lhy45⟩) ⟨fun _ => co4d, fun _ => True.intro⟩ ?lrest45; case lhy45 => (intro w hSw; (try dsimp only at hSw); go_simp; (try with_reducible rfl)); (try simp only [Act.put, List.getElem_toArray, List.getElem_cons_zero, List.getElem_cons_succ, List.setIfInBounds_toArray, List.set_cons_zero, List.set_cons_succ])); (refine wpAnyL_take (S0 := (fun _ => True)) (i := 3) (q := 4) (v := ?lv46) rfl rfl (by kernel_rfl) (by kernel_rfl) (by kernel_rfl) (by kernel_rfl) (by kernel_rfl) (fun _ _ _ h => h) (fun _ _ _ _ => True.intro) (untilL_set (by decide) (by decide)) (Or.inl ⟨by rfl, ?lhy46⟩) ⟨fun _ => co4d, fun _ => True.intro⟩ ?lrest46; case lhy46 => (intro w hSw; (try dsimp only at hSw); go_simp; (try with_reducible rfl)); (try simp only [Act.put, List.getElem_toArray, List.getElem_cons_zero, List.getElem_cons_succ, List.setIfInBounds_toArray, List.set_cons_zero, List.set_cons_succ])); (refine wpAnyL_take (S0 := (fun w' => w'.cell? ⟨bo, 4, none⟩ = some (.slice (some ⟨g4, 0, none⟩) (O.length + 1) cap4))) (i := 4) (q := 14) (v := ?lv47) rfl rfl (by kernel_rfl) (by kernel_rfl) (by kernel_rfl) (by kernel_rfl) (by kernel_rfl) (fun _ _ _ h => h) (fun _ _ hq hS => hS.1 hq) (untilL_set (by decide) (by decide)) (Or.inl ⟨by rfl, ?lhy47⟩) ⟨fun _ => co4d, fun _ => True.intro⟩ ?lrest47; case lhy47 => (intro w hSw; (try dsimp only at hSw); go_simp; (try with_reducible rfl)); (try simp only [Act.put, List.getElem_toArray, List.getElem_cons_zero, List.getElem_cons_succ, List.setIfInBounds_toArray, List.set_cons_zero, List.set_cons_succ])); (refine wpAnyL_take (S0 := (fun _ => True)) (i := 5) (q := 6) (v := ?lv48) rfl rfl (by kernel_rfl) (by kernel_rfl) (by kernel_rfl) (by kernel_rfl) (by kernel_rfl) (fun _ _ _ h => h) (fun _ _ _ _ => True.intro) (untilL_set (by decide) (by decide)) (Or.inl ⟨by rfl, ?lhy48⟩) ⟨fun _ => co4d, fun _ => True.intro⟩ ?lrest48; case lhy48 => (intro w hSw; (try dsimp only at hSw); go_simp; (try with_reducible rfl)); (try simp only [Act.put, List.getElem_toArray, List.getElem_cons_zero, List.getElem_cons_succ, List.setIfInBounds_toArray, List.set_cons_zero, List.set_cons_succ])); (refine wpAnyL_take (S0 := (fun _ => True)) (i := 6) (q := 7) (v := ?lv49) rfl rfl (by kernel_rfl) (by kernel_rfl) (by kernel_rfl) (by kernel_rfl) (by kernel_rfl) (fun _ _ _ h => h) (fun _ _ _ _ => True.intro) (untilL_set (by decide) (by decide)) (Or.inl ⟨by rfl, ?lhy49⟩) ⟨fun _ => co4d, fun _ => True.intro⟩ ?lrest49; case lhy49 => (intro w hSw; (try dsimp only at hSw); go_simp; (try with_reducible rfl)); (try simp only [Act.put, List.getElem_toArray, List.getElem_cons_zero, List.getElem_cons_succ, List.setIfInBounds_toArray, List.set_cons_zero, List.set_cons_succ])); (refine wpAnyL_take (S0 := (fun _ => True)) (i := 7) (q := 8) (v := ?lv50) rfl rfl (by kernel_rfl) (by kernel_rfl) (by kernel_rfl) (by kernel_rfl) (by kernel_rfl) (fun _ _ _ h => h) (fun _ _ _ _ => True.intro) (untilL_set (by decide) (by decide)) (Or.inl ⟨by rfl, ?lhy50⟩) ⟨fun _ => co4d, fun _ => True.intro⟩ ?lrest50; case lhy50 => (intro w hSw; (try dsimp only at hSw); go_simp; (try with_reducible rfl)); (try simp only [Act.put, List.getElem_toArray, List.getElem_cons_zero, List.getElem_cons_succ, List.setIfInBounds_toArray, List.set_cons_zero, List.set_cons_succ])); (refine wpAnyL_take (S0 := (fun w' => w'.cell? ⟨bo, 4, none⟩ = some (.slice (some ⟨g4, 0, none⟩) (O.length + 1) cap4))) (i := 8) (q := 14) (v := ?lv51) rfl rfl (by kernel_rfl) (by kernel_rfl) (by kernel_rfl) (by kernel_rfl) (by kernel_rfl) (fun _ _ _ h => h) (fun _ _ hq hS => hS.1 hq) (untilL_set (by decide) (by decide)) (Or.inl ⟨by rfl, ?lhy51⟩) ⟨fun _ => co4d, fun _ => True.intro⟩ ?lrest51; case lhy51 => (intro w hSw; (try dsimp only at hSw); go_simp; (try with_reducible rfl)); (try simp only [Act.put, List.getElem_toArray, List.getElem_cons_zero, List.getElem_cons_succ, List.setIfInBounds_toArray, List.set_cons_zero, List.set_cons_succ])); (refine wpAnyL_take (S0 := (fun _ => True)) (i := 9) (q := 10) (v := ?lv52) rfl rfl (by kernel_rfl) (by kernel_rfl) (by kernel_rfl) (by kernel_rfl) (by kernel_rfl) (fun _ _ _ h => h) (fun _ _ _ _ => True.intro) (untilL_set (by decide) (by decide)) (Or.inl ⟨by rfl, ?lhy52⟩) ⟨fun _ => co4d, fun _ => True.intro⟩ ?lrest52; case lhy52 => (intro w hSw; (try dsimp only at hSw); go_simp; (try with_reducible rfl)); (try simp only [Act.put, List.getElem_toArray, List.getElem_cons_zero, List.getElem_cons_succ, List.setIfInBounds_toArray, List.set_cons_zero, List.set_cons_succ])); (refine wpAnyL_take (S0 := (fun _ => True)) (i := 10) (q := 11) (v := ?lv53) rfl rfl (by kernel_rfl) (by kernel_rfl) (by kernel_rfl) (by kernel_rfl) (by kernel_rfl) (fun _ _ _ h => h) (fun _ _ _ _ => True.intro) (untilL_set (by decide) (by decide)) (Or.inl ⟨by rfl, ?lhy53⟩) ⟨fun _ => co4d, fun _ => True.intro⟩ ?lrest53; case lhy53 => (intro w hSw; (try dsimp only at hSw); go_simp; (try with_reducible rfl)); (try simp only [Act.put, List.getElem_toArray, List.getElem_cons_zero, List.getElem_cons_succ, List.setIfInBounds_toArray, List.set_cons_zero, List.set_cons_succ])); (refine wpAnyL_take (S0 := (fun _ => True)) (i := 11) (q := 14) (v := ?lv54) rfl rfl (by kernel_rfl) (by kernel_rfl) (by kernel_rfl) (by kernel_rfl) (by kernel_rfl) (fun _ _ _ h => h) (fun _ _ _ _ => True.intro) (untilL_set (by decide) (by decide)) (Or.inl ⟨by rfl, ?lhy54⟩) ⟨fun _ => co4d, fun _ => True.intro⟩ ?lrest54; case lhy54 => (intro w hSw; (try dsimp only at hSw); go_simp; (try with_reducible rfl)); (try simp only [Act.put, List.getElem_toArray, List.getElem_cons_zero, List.getElem_cons_succ, List.setIfInBounds_toArray, List.set_cons_zero, List.set_cons_succ])); (refine wpAnyL_take (S0 := (fun _ => True)) (i := 12) (q := 13) (v := ?lv55) rfl rfl (by kernel_rfl) (by kernel_rfl) (by kernel_rfl) (by kernel_rfl) (by kernel_rfl) (fun _ _ _ h => h) (fun _ _ _ _ => True.intro) (untilL_set (by decide) (by decide)) (Or.inl ⟨by rfl, ?lhy55⟩) ⟨fun _ => co4d, fun _ => True.intro⟩ ?lrest55; case lhy55 => (intro w hSw; (try dsimp only at hSw); go_simp; (try with_reducible rfl)); (try simp only [Act.put, List.getElem_toArray, List.getElem_cons_zero, List.getElem_cons_succ, List.setIfInBounds_toArray, List.set_cons_zero, List.set_cons_succ])); (refine wpAnyL_take (S0 := (fun _ => True)) (i := 13) (q := 14) (v := ?lv56) rfl rfl (by kernel_rfl) (by kernel_rfl) (by kernel_rfl) (by kernel_rfl) (by kernel_rfl) (fun _ _ _ h => h) (fun _ _ _ _ => True.intro) (untilL_set (by decide) (by decide)) (Or.inl ⟨by rfl, ?lhy56⟩) ⟨fun _ => co4d, fun _ => True.intro⟩ ?lrest56; case lhy56 => (intro w hSw; (try dsimp only at hSw); go_simp; (try with_reducible rfl)); (try simp only [Act.put, List.getElem_toArray, List.getElem_cons_zero, List.getElem_cons_succ, List.setIfInBounds_toArray, List.set_cons_zero, List.set_cons_succ]))
          refine wpAnyL_ready (rs := [14]) (by kernel_rfl) (by simp) ?_; refine AllReadyL.cons (i := 14) rfl (fun K hK => ?_) AllReadyL.nil
          go_simp
          refine hK.out _ _ ⟨(fun h => Bool.noConfusion (show true = false from h)), (fun h => Bool.noConfusion (show true = false from h))⟩ (fun hHeld => ?_); clear hK K; (try simp only [Act.put, List.getElem_toArray, List.getElem_cons_zero, List.getElem_cons_succ, List.setIfInBounds_toArray, List.set_cons_zero, List.set_cons_succ])
          refine wpAnyL_done (by kernel_rfl) ?_ _; refine NoPanic.normal ?_
          have cu5 := H5.out.cu
          have us5 := (H5.out.us k hlt).1
          have fu5 := (H5.out.us k hlt).2
          have M6 := H5.out.setUsed k hlt false
          have H6 : SrchS lo bo bu n D w0 vc vf vl _ _ O vb4 (foldO F d O s b (k + 1)) := ⟨M6.fun (fun j hj => memO_back HMM.out j), H4.out.bn, H4.out.bs⟩
          have H6 := Lib.hid H6
          clear M6
          go_wp2_with fail
          go_roundw
          case rel => exact ⟨k + 1, by omega, by go_num, _, _, H6.out⟩
          case measure => simp [intOf]; omega
      · have HR : Hid (foldO F d O s b (k + 1) = foldO F d O s b k) := by unfold Hid; rw [foldO_succ]; unfold roundO; rw [if_pos (by simpa [memO] using hm)]
        rw [hm] at us
        have HS := Lib.hid hS
        clear hm hS
        go_wp2_with fail
        go_roundw
        case rel => exact ⟨k + 1, by omega, by go_num, _, _, by rw [HR.out]; exact HS.out⟩
        case measure => simp [intOf]; omega
    · obtain rfl : k = n := by omega
      have HS := Lib.hid hS
      clear hS
      go_wp2
      go_end0
      exact ⟨rfl, vo', vb', by rw [HW.out]; exact HS.out⟩
end Go.Proofs.Ytgcmnpimkfmccaa
