/- Contracts on distances of states. -/
import Derived.Test.YtggffkklfdpmkaaFarS
import Derived.Test.YtggffkklfdpmkaaIndex
import Derived.Test.YtggffkklfdpmkaaFarP
namespace Go.Proofs.Ytggffkklfdpmkaa
open Go.ChangeShapes Go.WideShapes Go.ChangeAt Go.RowKit
set_option linter.unusedVariables false
set_option linter.unusedSimpArgs false
/-- the distances of all states of the graph from one -/
noncomputable def distL (h m : Int) : List Int := (maskL (popI m) h).map (farM h m)
noncomputable def distX (h m : Int) : List Int := bif validB h m then distL h m else []
theorem distL_len (h m : Int) : (distL h m).length = (maskL (popI m) h).length := by simp [distL]
set_option maxHeartbeats 4000000 in
set_option maxRecDepth 100000 in
theorem c_spec_l09From (h m : Int) (w : World) (hv : validB h m = true) :
    Calls Try.prog 70 #[.agg #[.int .i64 h, .int .i64 m]] w fun e w' => ∃ v, e = .returned v ∧ OwnI1 w.heap.size w' v (distL h m) ∧ Below w.heap.size w w' := by
  have hk := valid_iff hv
  have hmem := mem_own hv
  have HK := Lib.hid hk
  have HMEM := Lib.hid hmem
  have hh1 : 1 ≤ h ∧ h ≤ 10 := hk.1
  have hmq : 0 ≤ m ∧ m < 1024 := mask_bd hk.1 hmem
  have HX := Lib.hid (arcs_bd (n := popI m) hh1)
  have HF : Hid (farL (maskL (popI m) h).length (arcsL (maskL (popI m) h) h) ((idx (maskL (popI m) h) m : Nat) : Int) = distL h m) := farL_eq hh1 hmem
  have hlen := maskL_len (popI m) h hh1
  have hidx := idx_lt hmem
  have hXl := arcs_len' (popI m) h hh1
  clear hk hmem
  go_enter Try.func70, Try.ntmps70
  have k0 : (w.alloc (Obj.cells #[Value.int IntKind.i64 h, Value.int IntKind.i64 m] 36)).cell? ⟨w.heap.size, 0, none⟩ = some (.int .i64 h) := World.cell?_alloc_at _ _ _ _ rfl
  have k1 : (w.alloc (Obj.cells #[Value.int IntKind.i64 h, Value.int IntKind.i64 m] 36)).cell? ⟨w.heap.size, 1, none⟩ = some (.int .i64 m) := World.cell?_alloc_at _ _ _ _ rfl
  have hz1 : w.heap.size < (w.alloc (Obj.cells #[Value.int IntKind.i64 h, Value.int IntKind.i64 m] 36)).heap.size := by simp
  have B1 : Below w.heap.size w (w.alloc (Obj.cells #[Value.int IntKind.i64 h, Value.int IntKind.i64 m] 36)) := by (repeat (first | (with_reducible assumption) | (with_reducible exact Below.refl _ _) | (with_reducible refine Below.setCell ?_ (by first | (simp; done) | (simp; omega)) _) | (with_reducible refine Below.al ?_ _) | (with_reducible refine Below.dr ?_) | (with_reducible refine Below.drN ?_ _) | (with_reducible refine Below.tr ?_ (by with_reducible assumption))))
  go_wp2_with fail
  go_region_held3 (fun w' => w'.cell? ⟨w.heap.size, 0, none⟩ = some (.int .i64 h) ∧ w'.cell? ⟨w.heap.size, 1, none⟩ = some (.int .i64 m))
    (go_keep)
    (first
      | ((go_at_call 72; refine (c_spec_l08Count m _ hmq).mono ?_; rintro e w2 ⟨rfl, rfl⟩))
      | ((go_at_call 58; refine (c_spec_l09Masks (popI m) h _ (by omega)).mono ?_; rintro e w3 ⟨v3, rfl, ho3, hb3⟩; have hb3' := below_drew hb3; have hz3 := Nat.lt_of_lt_of_le hz1 hb3'.size; have p0 := (hb3'.cell (p := ⟨w.heap.size, 0, none⟩) hz1).trans k0; have p1 := (hb3'.cell (p := ⟨w.heap.size, 1, none⟩) hz1).trans k1)))
  have hrM := ho3.rd
  have hsoM := Lib.hid (maskL_sorted (popI m) h)
  have B3 : Below w.heap.size w w3 := by (repeat (first | (with_reducible assumption) | (with_reducible exact Below.refl _ _) | (with_reducible refine Below.setCell ?_ (by first | (simp; done) | (simp; omega)) _) | (with_reducible refine Below.al ?_ _) | (with_reducible refine Below.dr ?_) | (with_reducible refine Below.drN ?_ _) | (with_reducible refine Below.tr ?_ (by with_reducible assumption))))
  have hr3 : RdI w3.drew v3 (maskL (popI m) h) := hrM
  clear hb3' hb3
  go_wp2_with fail
  go_region_held3 (fun w' => w'.cell? ⟨w.heap.size, 0, none⟩ = some (.int .i64 h) ∧ w'.cell? ⟨w.heap.size, 1, none⟩ = some (.int .i64 m))
    (go_keep)
    (first
      | ((go_at_call 57; refine (c_spec_l09Arcs (popI m) h _ _ hh1 hr3).mono ?_; rintro e w4 ⟨v4, rfl, ho4, hb4⟩; have hb4' := below_drew hb4; have hz4 := Nat.lt_of_lt_of_le hz3 hb4'.size; have r0 := (hb4'.cell (p := ⟨w.heap.size, 0, none⟩) hz3).trans p0; have r1 := (hb4'.cell (p := ⟨w.heap.size, 1, none⟩) hz3).trans p1; have hr4 := hrM.below hb4'))
      | ((go_at_call 71; refine (c_spec_l09Find (maskL (popI m) h) m _ _ hr4 hsoM.out HMEM.out (by omega)).mono ?_; rintro e w5 ⟨rfl, rfl⟩))
      | ((go_at_call 75; refine (c_spec_l09Far (maskL (popI m) h) (arcsL (maskL (popI m) h) h) ((idx (maskL (popI m) h) m : Nat) : Int) _ _ _ hr4 (OwnRow.rd rowA_len ho4) HX.out (by omega) (by omega) (by omega)).mono ?_; rintro e w6 ⟨v6, rfl, ho6, hb6⟩; have r2 := (hb6.cell (p := ⟨w.heap.size, 0, none⟩) hz4).trans r0; have r3 := (hb6.cell (p := ⟨w.heap.size, 1, none⟩) hz4).trans r1)))
  have hs4 := hb4'.size
  have hs3 := B3.size
  go_wp2
  go_ret
  exact ⟨_, rfl, by rw [← HF.out]; exact ho6.base (by omega), by (repeat (first | (with_reducible assumption) | (with_reducible exact Below.refl _ _) | (with_reducible refine Below.setCell ?_ (by first | (simp; done) | (simp; omega)) _) | (with_reducible refine Below.al ?_ _) | (with_reducible refine Below.dr ?_) | (with_reducible refine Below.drN ?_ _) | (with_reducible refine Below.tr ?_ (by with_reducible assumption))))⟩
set_option maxHeartbeats 4000000 in
theorem c_spec_DistancesFrom (h m : Int) (w : World) :
    Calls Try.prog 35 #[.agg #[.int .i64 h, .int .i64 m]] w fun e w' => ∃ v, e = .returned (.tuple #[v, .int .i64 (validC h m)]) ∧ OwnI1 w.heap.size w' v (distX h m) ∧ Below w.heap.size w w' := by
  cases hv : validB h m
  · have HX : Hid (distX h m = []) := by unfold Hid distX; rw [hv]; rfl
    have HV : Hid (validC h m = 1) := by unfold Hid validC; rw [hv]; rfl
    go_enter Try.func35, Try.ntmps35
    go_wp2_with (go_at_call 66; refine (c_spec_l08Ok _ _ _).mono ?_; rintro e w1 ⟨rfl, hb⟩; obtain ⟨hc, hf⟩ := bcell hb)
    go_ret2
    exact ⟨_, by rw [HV.out]; rfl, by rw [HX.out]; exact OwnI.nil _ rfl, by (repeat (first | (with_reducible assumption) | (with_reducible exact Below.refl _ _) | (with_reducible refine Below.setCell ?_ (by first | (simp; done) | (simp; omega)) _) | (with_reducible refine Below.al ?_ _) | (with_reducible refine Below.dr ?_) | (with_reducible refine Below.drN ?_ _) | (with_reducible refine Below.tr ?_ (by with_reducible assumption))))⟩
  · have HX : Hid (distX h m = distL h m) := by unfold Hid distX; rw [hv]; rfl
    have HV : Hid (validC h m = 0) := by unfold Hid validC; rw [hv]; rfl
    have HB := Lib.hid hv
    go_enter Try.func35, Try.ntmps35
    go_wp2_with (first | (go_at_call 66; refine (c_spec_l08Ok _ _ _).mono ?_; rintro e w1 ⟨rfl, hb⟩; obtain ⟨hc, hf⟩ := bcell hb) | (go_at_call 70; refine (c_spec_l09From _ _ _ HB.out).mono ?_; rintro e w2 ⟨v, rfl, hown, hb2⟩))
    go_ret2
    exact ⟨_, by rw [HV.out]; rfl, by rw [HX.out]; exact hown.base (by have := hb.size; simp at this; omega), by (repeat (first | (with_reducible assumption) | (with_reducible exact Below.refl _ _) | (with_reducible refine Below.setCell ?_ (by first | (simp; done) | (simp; omega)) _) | (with_reducible refine Below.al ?_ _) | (with_reducible refine Below.dr ?_) | (with_reducible refine Below.drN ?_ _) | (with_reducible refine Below.tr ?_ (by with_reducible assumption))))⟩
theorem distL_succ {h m : Int} {k : Nat} (hk : k < (maskL (popI m) h).length) : (distL h m).take (k + 1) = (distL h m).take k ++ [farM h m ((maskL (popI m) h).getD k 0)] := by
  rw [take_snoc _ _ (by rw [distL_len]; exact hk)]
  simp [distL, List.getD, hk]
set_option maxHeartbeats 4000000 in
set_option maxRecDepth 100000 in
theorem c_impl_DistancesFrom (h m : Int) (w : World) :
    Calls Try.prog 36 #[.agg #[.int .i64 h, .int .i64 m]] w fun e w' => ∃ v, e = .returned (.tuple #[v, .int .i64 (validC h m)]) ∧ OwnI1 w.heap.size w' v (distX h m) ∧ Below w.heap.size w w' := by
  cases hv : validB h m
  · have HX : Hid (distX h m = []) := by unfold Hid distX; rw [hv]; rfl
    have HV : Hid (validC h m = 1) := by unfold Hid validC; rw [hv]; rfl
    go_enter Try.func36, Try.ntmps36
    go_wp2_with (go_at_call 62; refine (c_impl_ValidState _ _ _).mono ?_; rintro e w1 ⟨rfl, hb⟩; obtain ⟨hc, hf⟩ := bcell hb)
    go_ret2
    exact ⟨_, by rw [HV.out]; rfl, by rw [HX.out]; exact OwnI.nil _ rfl, by (repeat (first | (with_reducible assumption) | (with_reducible exact Below.refl _ _) | (with_reducible refine Below.setCell ?_ (by first | (simp; done) | (simp; omega)) _) | (with_reducible refine Below.al ?_ _) | (with_reducible refine Below.dr ?_) | (with_reducible refine Below.drN ?_ _) | (with_reducible refine Below.tr ?_ (by with_reducible assumption))))⟩
  · have HX : Hid (distX h m = distL h m) := by unfold Hid distX; rw [hv]; rfl
    have HV : Hid (validC h m = 0) := by unfold Hid validC; rw [hv]; rfl
    have hk := valid_iff hv
    have hmem := mem_own hv
    have HMEM := Lib.hid hmem
    have hh1 : 1 ≤ h ∧ h ≤ 10 := hk.1
    have hmq := hk.2
    have hmb : 0 ≤ m ∧ m < 1024 := mask_bd hk.1 hmem
    have hlen := maskL_len (popI m) h hh1
    have HBD := Lib.hid (fun x => fun hx => mask_bd (n := popI m) (h := h) (m := x) hh1 hx)
    have HSU := Lib.hid (fun k => fun hk => distL_succ (h := h) (m := m) (k := k) hk)
    have HDL := Lib.hid (distL_len h m)
    have HFM : Hid (∀ x ∈ maskL (popI m) h, dist (adjM h) m x = some (farM h m x) ∧ 0 ≤ farM h m x ∧ farM h m x ≤ 1024) := fun x hx => by
      have h1 := farM_bd hh1 hmem hx
      exact ⟨(farM_eq hh1 hmem hx).1, by omega, by omega⟩
    clear hk hmem
    go_enter Try.func36, Try.ntmps36
    go_wp2_with (go_at_call 62; refine (c_impl_ValidState _ _ _).mono ?_; rintro e w1 ⟨rfl, hb⟩; obtain ⟨hc, hf⟩ := bcell hb)
    have hz1 : w.heap.size < w1.heap.size := Nat.lt_of_lt_of_le (by simp) hb.size
    have B1 : Below w.heap.size w w1 := by (repeat (first | (with_reducible assumption) | (with_reducible exact Below.refl _ _) | (with_reducible refine Below.setCell ?_ (by first | (simp; done) | (simp; omega)) _) | (with_reducible refine Below.al ?_ _) | (with_reducible refine Below.dr ?_) | (with_reducible refine Below.drN ?_ _) | (with_reducible refine Below.tr ?_ (by with_reducible assumption))))
    have k0 : w1.cell? ⟨w.heap.size, 0, none⟩ = some (.int .i64 h) := by go_simp
    have k1 : w1.cell? ⟨w.heap.size, 1, none⟩ = some (.int .i64 m) := by go_simp
    clear hc hf hb
    go_wp2_with fail
    refine (c_impl_distancesFrom h m _ hh1 hmq).mono ?_; rintro e w2 ⟨bm, rfl, hom, hb2⟩
    have hz2 := Nat.lt_of_lt_of_le hz1 hb2.size
    have p0 := (hb2.cell (p := ⟨w.heap.size, 0, none⟩) hz1).trans k0
    have p1 := (hb2.cell (p := ⟨w.heap.size, 1, none⟩) hz1).trans k1
    have B2 : Below w.heap.size w w2 := by (repeat (first | (with_reducible assumption) | (with_reducible exact Below.refl _ _) | (with_reducible refine Below.setCell ?_ (by first | (simp; done) | (simp; omega)) _) | (with_reducible refine Below.al ?_ _) | (with_reducible refine Below.dr ?_) | (with_reducible refine Below.drN ?_ _) | (with_reducible refine Below.tr ?_ (by with_reducible assumption))))
    generalize hLn : maskL (popI m) h = L at *
    have HLn := Lib.hid hLn
    clear hLn hb2
    have hz2' : w.heap.size < (w2.alloc (Obj.cells #[] 2)).heap.size := by simp; omega
    have j0 : (w2.alloc (Obj.cells #[] 2)).cell? ⟨w.heap.size, 0, none⟩ = some (.int .i64 h) := by rw [World.cell?_alloc_past _ _ _ hz2]; exact p0
    have j1 : (w2.alloc (Obj.cells #[] 2)).cell? ⟨w.heap.size, 1, none⟩ = some (.int .i64 m) := by rw [World.cell?_alloc_past _ _ _ hz2]; exact p1
    have hh : 0 ≤ h ∧ h ≤ 10 := by omega
    go_wp2_with fail
    go_region_held3 (fun w' => w'.cell? ⟨w.heap.size, 0, none⟩ = some (.int .i64 h) ∧ w'.cell? ⟨w.heap.size, 1, none⟩ = some (.int .i64 m))
      (go_keep)
      (first
        | ((go_at_call 64; refine (c_impl_State_props h m _ hh hmq).mono ?_; rintro e w3 ⟨rfl, hb3⟩; have hb3' := below_drew hb3; have hz3 := Nat.lt_of_lt_of_le hz2' hb3'.size; have m0 := (hb3'.cell (p := ⟨w.heap.size, 0, none⟩) hz2').trans j0; have m1 := (hb3'.cell (p := ⟨w.heap.size, 1, none⟩) hz2').trans j1))
        | ((go_at_call 61; refine (c_impl_allStates (popI m) h _ hh).mono ?_; rintro e w4 ⟨v4, rfl, ho4, hb4⟩; have hz4 := Nat.lt_of_lt_of_le hz3 hb4.size; have n0 := (hb4.cell (p := ⟨w.heap.size, 0, none⟩) hz3).trans m0; have n1 := (hb4.cell (p := ⟨w.heap.size, 1, none⟩) hz3).trans m1; rw [HLn.out] at ho4; have hr4 := OwnRow.rd (rowS_len h) ho4; obtain ⟨a4, cap4, rfl, hl4, _⟩ := hr4)))
    have hlt4 := World.ownsRow.lt ho4.1
    have hr4 := OwnRow.rd (rowS_len h) ho4
    obtain ⟨_, _, he4, _, hc4⟩ := hr4
    cases he4
    have hs3 : w2.heap.size + 1 ≤ w3.heap.size := by have := hb3'.size; simpa using this
    have hs4 := hb4.size
    have B24 : Below w2.heap.size w2 w4 := Below.trans (((Below.refl _ _).al _).tr hb3') (hb4.mono (by omega))
    have hout4 : OwnI1 w2.heap.size w4 (.slice (some ⟨w2.heap.size, 0, none⟩) 0 0) ((distL h m).take 0) := by
      rw [List.take_zero]
      exact ((OwnI.made (E := 2) (a := w2) (B := w2.heap.size) (xs := []) rfl rfl (Nat.le_refl _)).below hb3').below hb4
    clear hb3 hb3' hb4
    have hDL := HDL.out
    go_wp2
    go_loopw [5, 20] (fun out i wr => ∃ k : Nat, k ≤ L.length ∧ i = .int .i64 k ∧ OwnI1 w2.heap.size wr out ((distL h m).take k) ∧ Below w2.heap.size w2 wr ∧ Same w3.heap.size w4.heap.size w4 wr ∧ Hid (∀ b, out.ownBlock = some b → b < w3.heap.size ∨ w4.heap.size ≤ b)) (fun _ i _ => L.length - (intOf i).toNat)
    case atStart => exact ⟨0, by omega, rfl, hout4, B24, Same.refl (Nat.le_refl _), fun b hb => Or.inl (by simp only [Value.ownBlock, Option.some.injEq] at hb; omega)⟩
    case round =>
      clear hDL
      obtain ⟨k, hk, rfl, hout, hbr, hsm, hoff⟩ := hrel
      have hsm1 := hsm.1
      have hbs := hbr.size
      by_cases hlt : k < L.length
      · obtain ⟨b1, o1, rfl, hx⟩ := hc4 k hlt
        have hb1 := hlt4 b1 rfl
        have y0 : wr.cell? ⟨b1, o1 + k * 2, none⟩ = some (.int .i64 h) := by rw [hsm.cell hb1.1 hb1.2]; exact hx 0 _ rfl
        have y1 : wr.cell? ⟨b1, o1 + k * 2 + 1, none⟩ = some (.int .i64 (L.getD k 0)) := by
          rw [hsm.cell hb1.1 hb1.2]
          have h1 := hx 1 (.int .i64 L[k]) rfl
          rw [h1]; simp [List.getD, hlt]
        have hfm := HFM.out _ (getD_mem hlt)
        have hxb := HBD.out _ (getD_mem hlt)
        have HS := Lib.hid (HSU.out k hlt)
        obtain ⟨x, Hx⟩ : ∃ x, Hid (L.getD k 0 = x) := ⟨_, rfl⟩
        rw [Hx.out] at y1 hfm hxb HS
        obtain ⟨hf1, hf2⟩ := hfm
        have HG : Hid ((dist (adjM h) m x).getD 0 = farM h m x) := by unfold Hid; rw [hf1]; rfl
        have hll : ((distL h m).take k).length < 1000000000 := by rw [List.length_take]; omega
        obtain ⟨dx, Hdx⟩ : ∃ dx, Hid (farM h m x = dx) := ⟨_, rfl⟩
        rw [Hdx.out] at HG HS hf2
        have hneb : ¬ wr.heap.size = b1 := by omega
        clear hx hf1 hc4
        go_wp2_with (first
          | (at_lookup; refine map_get rfl _ _ _ rfl Try.underlying74 Try.underlying2 Try.underlying2 zeroI w1.heap.size w2.heap.size bm L.length (dist (adjM h) m) x _ rfl rfl (by exact (hom.below hbr).al _) (by omega) ?_; rw [HG.out])
          | (at_builtin; refine push_int_at rfl _ _ _ _ rfl Try.underlying49 infoI w2.heap.size _ _ _ (wr.alloc (Obj.cells #[Value.int IntKind.i64 h, Value.int IntKind.i64 x] 36)) rfl (by rw [World.size_alloc]; rfl) (by exact hout.al _) hll (by rw [World.size_alloc]; omega) ?_; intro v6 w6 hq6 hg6 hat6 hs6))
        have hsa : (wr.alloc (Obj.cells #[Value.int IntKind.i64 h, Value.int IntKind.i64 x] 36)).heap.size = wr.heap.size + 1 := World.size_alloc _ _
        have hBa : Below w2.heap.size w2 (wr.alloc (Obj.cells #[Value.int IntKind.i64 h, Value.int IntKind.i64 x] 36)) := hbr.al _
        go_roundw
        case rel => exact ⟨k + 1, by omega, by go_num, by rw [HS.out]; exact hq6, hBa.grown hg6 hBa.size (fun q hq => (World.ownsRow.lt hout q hq).1), (hsm.below ((Below.refl _ _).al _)).grown hg6 hoff.out, fun b hb => by
          rcases hat6 with he | he
          · exact hoff.out b (he.symm.trans hb)
          · rw [he] at hb; simp only [Option.some.injEq] at hb; right; omega⟩
        case measure => simp [intOf]; omega
      · obtain rfl : k = L.length := by omega
        have HA : Hid ((distL h m).take L.length = distL h m) := List.take_of_length_le (by rw [HDL.out]; omega)
        clear hc4
        go_wp2
        go_ret2
        exact ⟨_, by rw [HV.out]; rfl, by rw [HX.out, ← HA.out]; exact hout.base (by omega), B2.tr hbr⟩
end Go.Proofs.Ytggffkklfdpmkaa
