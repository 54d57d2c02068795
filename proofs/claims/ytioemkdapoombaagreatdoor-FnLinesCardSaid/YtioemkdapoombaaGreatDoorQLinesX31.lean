/- The law LinesX: what it rests on, part 31 of 46. -/
import Derived.Test.YtioemkdapoombaaGreatDoorQLinesX20
import Derived.Test.YtioemkdapoombaaGreatDoorQLinesX30
namespace Go.Proofs.YtioemkdapoombaaGreatDoor
open Go.ChangeShapes Go.WideShapes Go.ChangeAt Go.RowKit
set_option linter.unusedSimpArgs false
set_option linter.unusedVariables false
theorem rt_sizes {h : Int} {X : List Part2} (R : RoutOk h X) {k : Nat} (hk : k < X.length) : (hexT (patR X k)).size ≤ 12 ∧ (decT (timR X k)).size ≤ 30 := by
  refine ⟨?_, ?_⟩
  · rw [hexT_size]
    have hv := R.hv k hk
    have := (validP_iff.1 hv).1.2
    omega
  · have := decT_size (n := timR X k) (by have := R.ht k hk; omega)
    omega
set_option maxHeartbeats 16000000 in
set_option maxRecDepth 100000 in
theorem c_spec_RoutineLines (X : List Part2) (h : Int) (v : Value) (w : World) (hr : RdP w v X) :
    Calls Tryz.prog 11 #[.agg #[.int .i64 h, v]] w fun e w' => ∃ u, e = .returned (.tuple #[u, .int .i64 (rtC h X)]) ∧ OwnT w.heap.size w'.heap.size w' u (rlL h X) ∧ Below w.heap.size w w' := by
  obtain ⟨W0, hW0, k0, k1, B0⟩ := routOf w 34 h v
  have hr0 := hr.below B0
  have HRW := Lib.hid hr
  have hr' := hr
  obtain ⟨a1, cap1, rfl, hl1, -⟩ := hr'
  clear hr
  cases hv : validR h X
  · have HC : Hid (rtC h X = 1) := by unfold Hid rtC; rw [hv]; rfl
    have HX : Hid (rlL h X = []) := by unfold Hid rlL; rw [hv]; rfl
    go_enter Tryz.func11, Tryz.ntmps11
    go_wp2_with fail
    rw [← hW0]
    clear hW0
    refine (c_spec_l19Ok X h _ _ _ hr0 k0 k1).mono ?_; rintro e w1 ⟨rfl, hb1⟩; rw [hv]
    go_wp2
    go_ret2
    exact ⟨_, by rw [HC.out]; rfl, by rw [HX.out]; exact OwnRow.nil _ rfl, B0.tr hb1⟩
  · have HC : Hid (rtC h X = 0) := by unfold Hid rtC; rw [hv]; rfl
    have HX : Hid (rlL h X = doneR h (grR X) (rlTo h X X.length)) := by unfold Hid rlL; rw [hv]; rfl
    have R := rout_ok hv
    have HR := Lib.hid R
    have hxl := R.hl
    have hvb : validB h (grR X) = true := validB_iff.2 ⟨R.hh, by have := (mem_maskL.1 R.gr).1; omega⟩
    have hhh := R.hh
    obtain ⟨bp, op, u0, hbp, x0, -, -⟩ := HRW.out.part 0 (by omega)
    subst hbp
    have hbpw : bp < w.heap.size := World.block_lt_of_cell? w _ x0
    clear x0
    go_enter Tryz.func11, Tryz.ntmps11
    go_wp2_with fail
    rw [← hW0]
    clear hW0
    refine (c_spec_l19Ok X h _ _ _ hr0 k0 k1).mono ?_; rintro e w1 ⟨rfl, hb1⟩; rw [hv]
    have k0 := keepc hb1 k0
    have k1 := keepc hb1 k1
    have B1 := B0.tr hb1
    go_wp2_with fail
    refine (c_spec_l19Bridges X h _ _ _ (hr0.below hb1) R k0 k1).mono ?_; rintro e w2 ⟨u2, rfl, hub, hb2⟩
    have k0 := keepc hb2 k0
    have k1 := keepc hb2 k1
    have B2 := B1.tr hb2
    have HUB := Lib.hid hub
    obtain ⟨gb, nb, cb, rfl, hnb, -, -, hgb1, -, hgb3⟩ := hub.shape (by intro e; have := brTo_len h X (X.length + 1); rw [show brTo h X (X.length + 1) = brR h X from rfl, e] at this; simp at this)
    have hbl : (brR h X).length = X.length + 1 := brTo_len h X (X.length + 1)
    rw [hbl] at hnb
    subst hnb
    have HBL := Lib.hid hbl
    have HBA : Hid (∀ k, k ≤ X.length → (brR h X).getD k [] = brAt h X k) := fun k hk => by
      unfold brR brTo
      simp [List.getD, show k < X.length + 1 by omega]
    have HRB : Hid (∀ k, k ≤ X.length → ∃ ub, w2.cell? ⟨gb, k, none⟩ = some ub ∧ RdC w2 ub (brAt h X k)) := fun k hk => by
      obtain ⟨ub, hub0, -, hubr, -, -⟩ := HUB.out.get k (by rw [HBL.out]; omega)
      rw [HBA.out k hk] at hubr
      exact ⟨ub, hub0, hubr.1.rdc⟩
    clear hub hbl
    obtain ⟨ub0, yb0, hrc0⟩ := HRB.out 0 (Nat.zero_le _)
    obtain ⟨aq, nq, cq, hq⟩ : ∃ a n c, ub0 = .slice a n c := by obtain ⟨a, c, e, -⟩ := hrc0.1; exact ⟨_, _, _, e⟩
    subst hq
    have hk00 : (0 : Int) < (X.length : Int) + 1 := by omega
    go_wp2_with fail
    refine (c_spec_l27Throws (brAt h X 0) _ _ hrc0 (HR.out.hex 0) (by have := HR.out.few 0; omega)).mono ?_; rintro e w3 ⟨u3, rfl, hu3, hb3⟩
    have HO3 : Hid (OwnT w2.heap.size w3.heap.size w3 u3 (rlTo h X 0)) := Lib.hid hu3
    have HB3 := Lib.hid hb3
    clear hrc0 yb0 hu3 hb3
    go_wp2_with fail
    obtain ⟨lo, hlo⟩ : ∃ lo, Hid (w2.heap.size = lo) := ⟨_, Lib.hid rfl⟩
    rw [hlo.out] at HO3 HB3
    have hbxl : w.heap.size < lo := by have := World.block_lt_of_cell? w2 _ k0; have h2 : w.heap.size < w2.heap.size := this; rw [← hlo.out]; exact h2
    have hlo3 : lo ≤ w3.heap.size := by have := HB3.out.size; rw [hlo.out] at this; exact this
    have hsh3 : ∃ a n c, u3 = Value.slice a n c := by obtain ⟨a, c, e, -, -⟩ := OwnRow.rd rowT_len HO3.out; exact ⟨_, _, _, e⟩
    go_loopw [5, 6] (fun o i wr => ∃ k : Nat, k ≤ X.length ∧ i = .int .i64 k ∧ OwnT lo wr.heap.size wr o (rlTo h X k) ∧ (∃ a n c, o = .slice a n c) ∧ Below lo w2 wr) (fun _ i _ => X.length - (intOf i).toNat)
    case atStart => exact ⟨0, by omega, rfl, HO3.out, hsh3, HB3.out⟩
    case round =>
      clear HO3 HB3
      obtain ⟨k, hk, rfl, ho, ⟨ao, no, co, rfl⟩, BQ⟩ := hrel
      have HBQ := Lib.hid BQ
      have hlor : lo ≤ wr.heap.size := by have := BQ.size; rw [hlo.out] at this; exact this
      have BQ2 : Below w2.heap.size w2 wr := by rw [hlo.out]; exact BQ
      have k0r := keepc BQ2 k0
      have k1r := keepc BQ2 k1
      have BR : Below w.heap.size w wr := B2.tr BQ2
      have hll := HR.out.lines k
      have hll2 : (rlTo h X k).length < 1000000000 := by omega
      have hll5 : (rlTo h X k).length ≤ 60 := by omega
      by_cases hmid : k < X.length
      · have hc1 : (k : Int) < (X.length : Int) := by omega
        have hk0 : (0 : Int) ≤ (k : Int) := by omega
        have hk2 : (k : Int) + 1 < (X.length : Int) + 1 := by omega
        have hk3 : (0 : Int) ≤ (k : Int) + 1 := by omega
        obtain ⟨bp', op', up, hbe, x0, x1, hup⟩ := HRW.out.part k hmid
        cases hbe
        have hpv := HR.out.hv k hmid
        have htt := HR.out.ht k hmid
        obtain ⟨z1, z2⟩ := rt_sizes HR.out hmid
        have HLN : Hid (rtLine X k = ((⟨#[112, 97, 116, 116, 101, 114, 110, 32]⟩ ++ hexT (patR X k)) ++ ⟨#[32]⟩) ++ decT (timR X k)) := rfl
        have HRL : Hid (rlTo h X (k + 1) = (rlTo h X k ++ [rtLine X k]) ++ thrL (brAt h X (k + 1))) := rfl
        have HPV := Lib.hid hpv
        have y0 := keepc BR x0
        have y1 := keepc BR x1
        have hup7 := hup.below BR
        obtain ⟨E1, hE1⟩ : ∃ E1, Hid (hexT (patR X k) = E1) := ⟨_, Lib.hid rfl⟩
        obtain ⟨tm, htm⟩ : ∃ tm, Hid (timR X k = tm) := ⟨_, Lib.hid rfl⟩
        rw [htm.out] at y1 htt z2 HLN
        obtain ⟨E2, hE2⟩ : ∃ E2, Hid (decT tm = E2) := ⟨_, Lib.hid rfl⟩
        rw [hE1.out] at z1 HLN
        rw [hE2.out] at z2 HLN
        rw [HLN.out] at HRL
        obtain ⟨D1, hD1⟩ : ∃ D1, Hid (rlTo h X k = D1) := ⟨_, Lib.hid rfl⟩
        rw [hD1.out] at ho hll2 hll5 HRL
        clear x0 x1 hup hpv hll
        have ns1 : ¬ (9223372036854775807 < 8 + E1.size) := by omega
        have ns2 : ¬ (9223372036854775807 < 8 + E1.size + 1) := by omega
        have ns3 : ¬ (9223372036854775807 < 8 + E1.size + 1 + E2.size) := by omega
        have hup7d : RdI wr.drew up (patR X k) := hup7
        have htb : -9223372036854775808 ≤ tm ∧ tm ≤ 9223372036854775807 := by omega
        have hn0 : (Value.slice ao no co).ownBlock ≠ some w.heap.size := fun e => by have := (World.ownsRow.lt ho.1 _ e).1; omega
        have hnp : (Value.slice ao no co).ownBlock ≠ some bp := fun e => by have := (World.ownsRow.lt ho.1 _ e).1; omega
        go_wp2_with fail
        go_region_held3 (fun w' => w'.cell? ⟨w.heap.size, 1, none⟩ = some (.slice (some ⟨bp, op, none⟩) X.length cap1) ∧ w'.cell? ⟨bp, op + k * 2, none⟩ = some up ∧ w'.cell? ⟨bp, op + k * 2 + 1, none⟩ = some (.int .i64 tm))
          (go_keep)
          (first
            | ((go_at_call 51; refine (c_patS (patR X k) E1 hE1 up _ hup7d HPV).mono ?_; rintro e w8 ⟨rfl, hb8⟩; have hb8' := below_drew hb8; have r1 := keepc hb8' k1r; have r2 := keepc hb8' y0; have r3 := keepc hb8' y1; have ho8 := ho.below hb8'; have hs8 := hb8'.size))
            | ((go_at_call 52; refine (c_spec_l01Dec tm _ htb).mono ?_; rintro e w9 ⟨rfl, hb9⟩; rw [hE2.out]; have r4 := keepc hb9 r1; have r5 := keepc hb9 r2; have r6 := keepc hb9 r3; have ho9 := ho8.below hb9; have hs9 := hb9.size))
            | ((refine step_push_row (row := rowT) (by exact rfl) _ _ _ _ (by exact rfl) Tryz.underlying29 (.string ⟨#[]⟩) 16 infoTx rfl (by decide) (by decide) rowT_len lo wr.heap.size w9.heap.size (.slice ao no co) D1 (((⟨#[112, 97, 116, 116, 101, 114, 110, 32]⟩ ++ E1) ++ ⟨#[32]⟩) ++ E2) #[.string (((⟨#[112, 97, 116, 116, 101, 114, 110, 32]⟩ ++ E1) ++ ⟨#[32]⟩) ++ E2)] _ rfl (rowT_ones _) (by exact rfl) (by exact rfl) (heap_alloc_new w9 _) (by exact OwnRow.al ho9 _) hll2 ?_ ?_; exact (Nat.le_trans (Nat.le_trans (Nat.le_trans hlor hs8) hs9) (Nat.le_of_lt (Nat.lt_of_lt_of_le (Nat.lt_succ_self _) (Nat.le_of_eq (World.size_alloc w9 _).symm)))); intro v10 w10 ho10 hg10 hat10 hs10; have r7 := grown_c hg10 (al_c _ r4) hn0; have r8 := grown_c hg10 (al_c _ r5) hnp; have r9 := grown_c hg10 (al_c _ r6) hnp)))
        have Ba : Below wr.heap.size wr (w9.alloc (Obj.cells #[.string (((⟨#[112, 97, 116, 116, 101, 114, 110, 32]⟩ ++ E1) ++ ⟨#[32]⟩) ++ E2)] 9)) := ((hb8'.tr hb9).al _)
        have BQ10 : Below lo w2 w10 := (HBQ.out.trans (Ba.mono hlor)).grown hg10 (Nat.le_trans hlor Ba.size) (fun q hq => (World.ownsRow.lt ho.1 q hq).1)
        have BQ10' : Below w2.heap.size w2 w10 := by rw [hlo.out]; exact BQ10
        obtain ⟨ub, yb, hrc⟩ := HRB.out (k + 1) (by omega)
        have yb := keepc BQ10' yb
        have hrc := hrc.below BQ10'
        obtain ⟨aq', nq', cq', hq⟩ : ∃ a n c, ub = .slice a n c := by obtain ⟨a, c, e, -⟩ := hrc.1; exact ⟨_, _, _, e⟩
        subst hq
        obtain ⟨g10, n10, c10, rfl⟩ := ho10.form (by simp)
        have hl10 : (D1 ++ [(((⟨#[112, 97, 116, 116, 101, 114, 110, 32]⟩ ++ E1) ++ ⟨#[32]⟩) ++ E2)]).length + (thrL (brAt h X (k + 1))).length < 1000000000 := by
          have := thrL_few (HR.out.few (k + 1))
          rw [List.length_append, List.length_singleton]; omega
        have hlo10 : lo ≤ w10.heap.size := by have := BQ10'.size; rw [hlo.out] at this; exact this
        rename_i hHeldX
        clear hHeldX hat10 hg10 hs10 r1 r2 r3 r4 r5 r6 r7 r8 r9 ho ho8 ho9 y0 y1 Ba hll2
        go_wp2_with fail
        refine (c_spec_l27Throws (brAt h X (k + 1)) _ _ hrc (HR.out.hex (k + 1)) (by have := HR.out.few (k + 1); omega)).mono ?_; rintro e w11 ⟨u11, rfl, hu11, hb11⟩
        have HU11 := Lib.hid (OwnRow.rd rowT_len hu11)
        obtain ⟨au11, cu11, rfl, -, -⟩ := OwnRow.rd rowT_len hu11
        have ho11 := ho10.below hb11
        have BQ11 := BQ10.trans (hb11.mono hlo10)
        have hs11 := hb11.size
        obtain ⟨L1, hL1⟩ : ∃ L1, Hid (thrL (brAt h X (k + 1)) = L1) := ⟨_, Lib.hid rfl⟩
        rw [hL1.out] at HU11 hl10 HRL ⊢
        have hlo11 : lo ≤ w11.heap.size := Nat.le_trans hlo10 hs11
        clear hu11 hb11 ho10 yb hrc
        go_wp2_with (at_builtin; refine push_rows (row := rowT) rfl _ _ _ _ rfl Tryz.underlying29 (.string ⟨#[]⟩) 16 infoTx rfl (by decide) rowT_len rowT_ones lo _ _ _ _ _ _ rfl rfl (by exact ho11) ⟨_, _, _, rfl⟩ (by exact HU11.out) hl10 hlo11 ?_; intro v12 w12 ho12 hg12 hat12 hs12; refine stop_of ?_)
        unfold Stopped
        have BQ12 : Below lo w2 w12 := BQ11.grown hg12 hlo11 (fun q hq => (World.ownsRow.lt ho11.1 q hq).1)
        have ho12 : OwnT lo w12.heap.size w12 v12 (rlTo h X (k + 1)) := by rw [HRL.out]; exact ho12
        obtain ⟨a12, c12, rfl, -, -⟩ := OwnRow.rd rowT_len ho12
        have HP := Lib.hid (And.intro ho12 BQ12)
        clear ho12 BQ12 ho11 hg12 hat12 hs12
        go_wp2
        go_roundw
        case rel => exact ⟨k + 1, by omega, by go_num, HP.out.1, ⟨_, _, _, rfl⟩, HP.out.2⟩
        case measure => simp [intOf]; omega
      · have hke : k = X.length := by omega
        subst hke
        have hc1 : ¬ (X.length : Int) < (X.length : Int) := by omega
        have HGR : Hid (grR X = groundI (headN X)) := rfl
        obtain ⟨bp', op', up, hbe, x0, x1, hup⟩ := HRW.out.part 0 (by omega)
        cases hbe
        have hn0 := HR.out.hn 0 (by omega)
        have hpv := HR.out.hv 0 (by omega)
        have HPV := Lib.hid hpv
        have HN0 := Lib.hid hn0
        have hnb := HR.out.n
        have y0 : wr.cell? ⟨bp, op, none⟩ = some up := keepc BR x0
        have hup7 := hup.below BR
        have hupa : ∀ o, RdI (wr.alloc o) up (patR X 0) := fun o => hup7.below ((Below.refl _ _).al o)
        have hupd : RdI wr.drew up (patR X 0) := hup7
        have hupad : ∀ o, RdI (wr.alloc o).drew up (patR X 0) := fun o => hupa o
        have hxp : (0 : Int) < (X.length : Int) := by omega
        have hxpN : 0 < X.length := by omega
        obtain ⟨NN, hNN⟩ : ∃ NN, Hid (headN X = NN) := ⟨_, Lib.hid rfl⟩
        rw [hNN.out] at HN0 hnb HGR
        have hnb2 : 0 ≤ NN ∧ NN ≤ 10 := by omega
        obtain ⟨GG, hGG⟩ : ∃ GG, Hid (groundI NN = GG) := ⟨_, Lib.hid rfl⟩
        rw [hGG.out] at HGR
        clear x0 x1 hup hn0 hpv hll hll2
        go_wp2_with fail
        go_region_held3 (fun w' => w'.cell? ⟨w.heap.size, 0, none⟩ = some (.int .i64 h) ∧ w'.cell? ⟨w.heap.size, 1, none⟩ = some (.slice (some ⟨bp, op, none⟩) X.length cap1) ∧ w'.cell? ⟨bp, op, none⟩ = some up)
          (go_keep)
          (first
            | ((go_at_call 54; refine (c_spec_l02Props (patR X 0) up _ (by first | exact hupd | exact hupad _ | exact hup7 | exact hupa _) HPV.out).mono ?_; rintro e w8 ⟨rfl, rfl⟩; rw [HN0.out]))
            | ((go_at_call 53; refine (c_spec_l08Ground NN _ hnb2).mono ?_; rintro e w9 ⟨rfl, rfl⟩; rw [hGG.out])))
        all_goals (
          try (rename_i hHeldX; clear hHeldX)
          obtain ⟨W5, hW5, d0, d1, B5⟩ := oneState wr 25 h GG
          have B5d : Below wr.heap.size wr W5.drew := B5.dr
          have d0 : W5.drew.cell? ⟨wr.heap.size, 0, none⟩ = some (.int .i64 h) := d0
          have d1 : W5.drew.cell? ⟨wr.heap.size, 1, none⟩ = some (.int .i64 GG) := d1
          rw [← hW5]
          clear hW5
          have HVB : Hid (validB h GG = true) := by unfold Hid; rw [← HGR.out]; exact hvb
          have hord := OwnRow.rd rowT_len (ho.below B5d)
          have HDC := Lib.hid HR.out.done
          rw [HGR.out] at HX HDC
          generalize W5.drew = W6 at *
          go_wp2_with fail
          refine (c_spec_l27Done h GG (rlTo h X X.length) _ _ HVB.out hord (by omega)).mono ?_; rintro e w6 ⟨r, rfl, hr6, hb6⟩
          have B6 := (BR.tr B5d).tr hb6
          have hsz := (BR.tr B5d).size
          rw [HDC.out.1]
          rw [HDC.out.2] at hr6
          go_wp2
          go_ret2
          exact ⟨r, by rw [HC.out]; rfl, by rw [HX.out]; exact hr6.wide hsz (Nat.le_refl _), B6⟩)
end Go.Proofs.YtioemkdapoombaaGreatDoor
