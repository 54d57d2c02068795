/- The law FnGraphs returns true for all slices of bytes. No condition. -/
import Derived.Test.YtggffkklfdpmkaaPlainGr
import Derived.Test.YtggffkklfdpmkaaGraphX
import Derived.Test.YtggffkklfdpmkaaInto
import Derived.Test.YtggffkklfdpmkaaCmpS
import Derived.Test.YtggffkklfdpmkaaBytes
import Derived.BigQuiet
import Derived.Deep.RegionHeld3
namespace Go.Proofs.Ytggffkklfdpmkaa
open Go.ChangeShapes Go.WideShapes Go.ChangeAt Go.RowKit
set_option linter.unusedVariables false
set_option linter.unusedSimpArgs false
namespace fnGraphs
set_option maxHeartbeats 4000000 in
set_option maxRecDepth 100000 in
theorem walk (v0 v1 : Value) (w : World) (a0 : Arg_bytes w v0) (a1 : Arg_bytes w v1) : Calls Try.prog 4 #[v0, v1] w fun e w' => e = .returned (.bool true) ∧ Below w.heap.size w w' := by
  obtain ⟨bs, hb0⟩ := a0
  obtain ⟨cs, hb1⟩ := a1
  have HB0 := Lib.hid hb0
  have HB1 := Lib.hid hb1
  obtain ⟨aa, ca, rfl, hla, -, -⟩ := hb0
  obtain ⟨ab, cb, rfl, hlb, -, -⟩ := hb1
  cases hlong : (decide ((bs.length : Int) > 3000) || decide ((cs.length : Int) > 3000))
  rotate_left
  · go_enter Try.func4, Try.ntmps4
    go_wp2_with fail
    refine (c_laws_a2Long _ _ _ _ _ _ _ (by omega) (by omega)).mono ?_; rintro e w1 ⟨rfl, rfl⟩; rw [hlong]
    go_wp2
    go_ret
    exact ⟨rfl, by (repeat (first | (with_reducible assumption) | (with_reducible exact Below.refl _ _) | (with_reducible refine Below.setCell ?_ (by first | (simp; done) | (simp; omega)) _) | (with_reducible refine Below.al ?_ _) | (with_reducible refine Below.dr ?_) | (with_reducible refine Below.drN ?_ _) | (with_reducible refine Below.tr ?_ (by with_reducible assumption))))⟩
  · go_enter Try.func4, Try.ntmps4
    go_wp2_with fail
    refine (c_laws_a2Long _ _ _ _ _ _ _ (by omega) (by omega)).mono ?_; rintro e w1 ⟨rfl, rfl⟩; rw [hlong]
    clear hlong
    go_wp2_with fail
    refine (c_laws_a2At bs 0 _ _ _ _ HB0.out (by omega) rfl).mono ?_; rintro e w1 ⟨x, rfl, hx0, hx1, rfl⟩
    have hx7 := hx1 (by omega)
    obtain ⟨h, hhe⟩ : ∃ h, 1 + x = h := ⟨_, rfl⟩
    go_wp2_with fail
    refine (c_laws_a2At bs 1 _ _ _ _ HB0.out (by omega) rfl).mono ?_; rintro e w1 ⟨n, rfl, hn0, hn1, rfl⟩
    have hnh := hn1 (by omega)
    have hh : 1 ≤ h ∧ h ≤ 10 := by omega
    have hn : 0 ≤ n ∧ n ≤ h := by omega
    have hgc := graph_ok hh hn
    have HGC := Lib.hid hgc
    have hmp := mask_pos hh hn
    have hml := maskL_len n h hh
    have hge := arcs_ge (n := n) hh
    have hal := arcs_len' n h hh
    have HACN : Hid (arcCnt n h = ((arcsL (maskL n h) h).length : Int)) := by unfold Hid arcCnt; rw [hgc]; rfl
    have HAX : Hid (arcsX n h = arcsL (maskL n h) h) := by unfold Hid arcsX; rw [hgc]; rfl
    have HIX := Lib.hid (fun i hi => idx_mem (n := n) (i := i) hh hi)
    have HVC := Lib.hid (fun i hi => validC_mem (n := n) hh (getM (i := i) hi))
    have HIN := Lib.hid (fun i hi => into_mem (n := n) (i := i) hh hi)
    have HAF := Lib.hid (fun k (hk : k < (arcsL (maskL n h) h).length) => arc_facts (n := n) hh (List.getElem_mem hk))
    have HVB := Lib.hid (fun i hi => valid_mem (n := n) hh (getM (i := i) hi))
    have HMB := Lib.hid (fun i hi => mask_bd (n := n) hh (getM (i := i) hi))
    clear hgc
    go_wp2_with fail
    refine (c_impl_AllStates n h _ HGC.out).mono ?_; rintro e w2 ⟨v2, rfl, ho2, hb2⟩
    go_wp2_with fail
    refine (c_impl_StateCount n h _ HGC.out).mono ?_; rintro e w3 ⟨rfl, hb3⟩
    go_wp2_with fail
    refine (c_impl_ArcsOf n h _).mono ?_; rintro e w4 ⟨v4, rfl, ho4, hb4⟩; rw [HGC.out]
    rw [HAX.out] at ho4
    go_wp2_with fail
    refine (c_impl_ArcCount n h _).mono ?_; rintro e w5 ⟨rfl, hb5⟩; rw [HGC.out, HACN.out]
    obtain ⟨a2, cap2, rfl, hl2, hc2⟩ := OwnRow.rd (rowS_len h) ho2
    obtain ⟨a4, cap4, rfl, hl4, hc4⟩ := OwnRow.rd rowA_len ho4
    have B2 : Below w.heap.size w w2 := hb2
    have B25 : Below w2.heap.size w2 w5 := (hb3.tr hb4).tr hb5
    have B5 : Below w.heap.size w w5 := B2.tr B25
    have HM2 : Hid (∀ k (hk : k < (maskL n h).length), ∃ b off, a2 = some ⟨b, off, none⟩ ∧ w5.cell? ⟨b, off + k * 2, none⟩ = some (.int .i64 h) ∧ w5.cell? ⟨b, off + k * 2 + 1, none⟩ = some (.int .i64 ((maskL n h).getD k 0))) := fun k hk => by
      obtain ⟨b, off, ha, hx⟩ := hc2 k hk
      have h0 := hx 0 (.int .i64 h) rfl
      have h1 := hx 1 (.int .i64 (maskL n h)[k]) rfl
      have e : (maskL n h).getD k 0 = (maskL n h)[k] := by simp [List.getD, hk]
      exact ⟨b, off, ha, keepc B25 h0, by rw [e]; exact keepc B25 h1⟩
    have HM4 : Hid (∀ k (hk : k < (arcsL (maskL n h) h).length), ∃ b off, a4 = some ⟨b, off, none⟩ ∧ w5.cell? ⟨b, off + k * 3, none⟩ = some (.int .i64 (arcsL (maskL n h) h)[k].1) ∧ w5.cell? ⟨b, off + k * 3 + 1, none⟩ = some (.int .i64 (arcsL (maskL n h) h)[k].2.1) ∧ w5.cell? ⟨b, off + k * 3 + 2, none⟩ = some (.int .i64 (arcsL (maskL n h) h)[k].2.2)) := fun k hk => by
      obtain ⟨b, off, ha, hx⟩ := hc4 k hk
      exact ⟨b, off, ha, keepc hb5 (hx 0 _ rfl), keepc hb5 (hx 1 _ rfl), keepc hb5 (hx 2 _ rfl)⟩
    clear hc2 hc4 ho2 ho4 hb2 hb3 hb4 hb5
    have tn1 : (((maskL n h).length : Int) != ((maskL n h).length : Int)) = false := by simp
    have tn2 : (((arcsL (maskL n h) h).length : Int) != ((arcsL (maskL n h) h).length : Int)) = false := by simp
    have tn3 : ¬ (((maskL n h).length : Int) < 1) := by omega
    have tn4 : ¬ (((arcsL (maskL n h) h).length : Int) < ((maskL n h).length : Int)) := by omega
    go_wp2_with fail
    refine (c_laws_a2At cs 0 _ _ _ _ (HB1.out.below B5) (by omega) rfl).mono ?_; rintro e w6 ⟨at', rfl, hat0, hat1, rfl⟩
    have hat2 := hat1 (by omega)
    obtain ⟨at0, rfl⟩ := Int.eq_ofNat_of_zero_le hat0
    have hatn : at0 < (maskL n h).length := by omega
    obtain ⟨b1, o1, rfl, hx0, hx1⟩ := HM2.out at0 hatn
    have HI1 := Lib.hid (HIX.out at0 hatn)
    have HC1 := Lib.hid (HVC.out at0 hatn)
    have HN1 := Lib.hid (HIN.out at0 hatn)
    obtain ⟨m0, Hm0⟩ : ∃ m0, Hid ((maskL n h).getD at0 0 = m0) := ⟨_, rfl⟩
    rw [Hm0.out] at hx1 HI1 HC1 HN1
    go_wp2_with fail
    refine (c_impl_StateIndex h m0 _).mono ?_; rintro e w7 ⟨rfl, hb7⟩; rw [HI1.out, HC1.out]
    have y0 := keepc hb7 hx0
    have y1 := keepc hb7 hx1
    go_wp2_with fail
    refine (c_impl_StateAt n h at0 _ HGC.out hatn).mono ?_; rintro e w8 ⟨rfl, hb8⟩; rw [Hm0.out]
    have y0 := keepc hb8 y0
    have y1 := keepc hb8 y1
    have B8 := hb7.tr hb8
    have z0 := al_c (Obj.cells #[Value.int IntKind.i64 h, Value.int IntKind.i64 m0] 36) y0
    have z1 := al_c (Obj.cells #[Value.int IntKind.i64 h, Value.int IntKind.i64 m0] 36) y1
    go_wp2_with fail
    have N0 : (w8.alloc (Obj.cells #[Value.int IntKind.i64 h, Value.int IntKind.i64 m0] 36)).cell? ⟨w8.heap.size, 0, none⟩ = some (.int .i64 h) := World.cell?_alloc_at _ _ _ _ rfl
    have N1 : (w8.alloc (Obj.cells #[Value.int IntKind.i64 h, Value.int IntKind.i64 m0] 36)).cell? ⟨w8.heap.size, 1, none⟩ = some (.int .i64 m0) := World.cell?_alloc_at _ _ _ _ rfl
    have B8a : Below w5.heap.size w5 (w8.alloc (Obj.cells #[Value.int IntKind.i64 h, Value.int IntKind.i64 m0] 36)) := B8.al _
    generalize (w8.alloc (Obj.cells #[Value.int IntKind.i64 h, Value.int IntKind.i64 m0] 36)) = W8 at *
    obtain ⟨nb, Hnb⟩ : ∃ nb, Hid (w8.heap.size = nb) := ⟨_, rfl⟩
    rw [Hnb.out] at N0 N1 ⊢
    clear y0 y1 z0 z1
    refine (c_impl_ArcsInto h m0 _).mono ?_; rintro e w9 ⟨v9, rfl, ho9, hb9⟩; rw [HC1.out]
    rw [HN1.out] at ho9
    have B9 := B8a.tr hb9
    have y0 := keepc B9 hx0
    have y1 := keepc B9 hx1
    have N0 := keepc hb9 N0
    have N1 := keepc hb9 N1
    obtain ⟨a9, cap9, rfl, hl9, hc9⟩ := OwnRow.rd rowA_len ho9
    have HM9 := Lib.hid hc9
    have hfl : ((arcsL (maskL n h) h).filter (fun a => a.2.2 == (at0 : Int))).length ≤ (arcsL (maskL n h) h).length := List.length_filter_le _ _
    clear ho9 hc9 hx0 hx1
    have tq1 : ((at0 : Int) != (at0 : Int)) = false := by simp
    have qs := fun w => neState w h m0 h m0
    have qg := gState
    have hin0 : (0 : Int) ≤ (at0 : Int) := Int.natCast_nonneg _
    have hin1 : (at0 : Int) < ((maskL n h).length : Int) := by omega
    go_wp2_with fail
    go_quiet (fail)
    have HF0 : Hid ((((arcsL (maskL n h) h).take 0).filter (fun a => a.2.2 == (at0 : Int))).length = 0) := by unfold Hid; simp
    have hbw : Below w9.heap.size w9 (w9.drewN nq) := by (repeat (first | (with_reducible assumption) | (with_reducible exact Below.refl _ _) | (with_reducible refine Below.setCell ?_ (by first | (simp; done) | (simp; omega)) _) | (with_reducible refine Below.al ?_ _) | (with_reducible refine Below.dr ?_) | (with_reducible refine Below.drN ?_ _) | (with_reducible refine Below.tr ?_ (by with_reducible assumption))))
    go_wp2
    go_loopw [22, 23] (fun c i wr => ∃ k : Nat, k ≤ (arcsL (maskL n h) h).length ∧ i = .int .i64 k ∧ c = .int .i64 (((arcsL (maskL n h) h).take k).filter (fun a => a.2.2 == (at0 : Int))).length ∧ Below w9.heap.size w9 wr) (fun _ i _ => (arcsL (maskL n h) h).length - (intOf i).toNat)
    case atStart => exact ⟨0, by omega, rfl, by rw [HF0.out]; rfl, hbw⟩
    case round =>
      clear y0 y1 N0 N1
      obtain ⟨k, hk, rfl, rfl, hbr⟩ := hrel
      have BR : Below w5.heap.size w5 wr := B9.tr hbr
      by_cases hlt : k < (arcsL (maskL n h) h).length
      · obtain ⟨b4, o4, rfl, p0, p1, p2⟩ := HM4.out k hlt
        obtain ⟨i0, j0, e0, hi0, e2, hj0, ht0, hcan, hnx⟩ := HAF.out k hlt
        have HYES := Lib.hid (filt_yes (p := fun a : Int × Int × Int => a.2.2 == (at0 : Int)) hlt)
        have HNO := Lib.hid (filt_no (p := fun a : Int × Int × Int => a.2.2 == (at0 : Int)) hlt)
        obtain ⟨ar, Ha⟩ : ∃ a : Int × Int × Int, Hid ((arcsL (maskL n h) h)[k] = a) := ⟨(arcsL (maskL n h) h)[k], Lib.hid rfl⟩
        obtain ⟨f, t, o⟩ := ar
        rw [Ha.out] at p0 p1 p2 e0 e2 ht0 hcan hnx HYES HNO
        dsimp only at p0 p1 p2 e0 e2 ht0 hcan hnx
        subst e0 e2
        have q0 := keepc BR p0
        have q1 := keepc BR p1
        have q2 := keepc BR p2
        obtain ⟨bi, oi, he, u0, u1⟩ := HM2.out i0 hi0
        cases he
        have r0 := keepc BR u0
        have r1 := keepc BR u1
        obtain ⟨bj, oj, he, x0, x1⟩ := HM2.out j0 hj0
        cases he
        have s0 := keepc BR x0
        have s1 := keepc BR x1
        rw [hnx] at s1
        have hvb := HVB.out i0 hi0
        have hmb := HMB.out i0 hi0
        obtain ⟨mi, Hmi⟩ : ∃ mi, Hid ((maskL n h).getD i0 0 = mi) := ⟨_, rfl⟩
        rw [Hmi.out] at r1 s1 hvb hmb hcan
        obtain ⟨mj, Hmj⟩ : ∃ mj, Hid (nextM mi t = mj) := ⟨_, rfl⟩
        rw [Hmj.out] at s1
        have hi1 : (0 : Int) ≤ (i0 : Int) := Int.natCast_nonneg _
        have hi2 : (i0 : Int) < ((maskL n h).length : Int) := by omega
        have hj1 : (0 : Int) ≤ (j0 : Int) := Int.natCast_nonneg _
        have hj2 : (j0 : Int) < ((maskL n h).length : Int) := by omega
        have hg1 : ¬ ((i0 : Int) < 0) := by omega
        have hg2 : ¬ ((i0 : Int) ≥ ((maskL n h).length : Int)) := by omega
        have hg3 : ¬ ((j0 : Int) < 0) := by omega
        have hg4 : ¬ ((j0 : Int) ≥ ((maskL n h).length : Int)) := by omega
        clear p0 p1 p2 u0 u1 x0 x1 hnx
        go_wp2_with fail
        have HW1 : ∃ W1, W1 = wr.alloc (Obj.cells #[Value.int IntKind.i64 (i0 : Int), Value.int IntKind.i64 t, Value.int IntKind.i64 (j0 : Int)] 41) := ⟨_, rfl⟩
        obtain ⟨W1, HW1⟩ := HW1
        have M0 : W1.cell? ⟨wr.heap.size, 0, none⟩ = some (.int .i64 (i0 : Int)) := by rw [HW1]; exact World.cell?_alloc_at _ _ _ _ rfl
        have M1 : W1.cell? ⟨wr.heap.size, 1, none⟩ = some (.int .i64 t) := by rw [HW1]; exact World.cell?_alloc_at _ _ _ _ rfl
        have M2 : W1.cell? ⟨wr.heap.size, 2, none⟩ = some (.int .i64 (j0 : Int)) := by rw [HW1]; exact World.cell?_alloc_at _ _ _ _ rfl
        have BW : Below wr.heap.size wr W1 := by rw [HW1]; exact (Below.refl _ _).al _
        have hzW : wr.heap.size < W1.heap.size := World.block_lt_of_cell? W1 _ M0
        rw [← HW1]
        clear HW1
        have r0 := keepc BW r0
        have r1 := keepc BW r1
        have s0 := keepc BW s0
        have s1 := keepc BW s1
        have hb1l : b1 < W1.heap.size := World.block_lt_of_cell? W1 _ r0
        have hne1 : ¬ W1.heap.size = b1 := by omega
        have hne2 : ¬ W1.heap.size = wr.heap.size := by omega
        obtain ⟨ab0, Hab⟩ : ∃ ab0, Hid (wr.heap.size = ab0) := ⟨_, rfl⟩
        rw [Hab.out] at M0 M1 M2 hzW hne2 ⊢
        go_region_held3 (fun w' => w'.cell? ⟨ab0, 0, none⟩ = some (.int .i64 (i0 : Int)) ∧ w'.cell? ⟨ab0, 1, none⟩ = some (.int .i64 t) ∧ w'.cell? ⟨b1, o1 + i0 * 2, none⟩ = some (.int .i64 h) ∧ w'.cell? ⟨b1, o1 + i0 * 2 + 1, none⟩ = some (.int .i64 mi))
          (go_keep)
          ((go_at_call 25; refine (c_spec_NextState h mi t _ hvb hcan (by omega) hmb (by omega)).mono ?_; rintro e w10 ⟨rfl, hb10⟩; first | (have hb10' := below_new hb10; obtain ⟨hc10, _⟩ := bcell hb10'; have hz10 : W1.heap.size < w10.heap.size := new_lt hb10; obtain ⟨n0, f0⟩ := new_cell hb10 0 _ rfl; obtain ⟨n1, f1⟩ := new_cell hb10 1 _ rfl) | (have hb10' := below_drew hb10; obtain ⟨hc10, _⟩ := bcell hb10'; have hz10 := hb10'.size)))
        go_wp2_with fail
        have N0 : (w10.alloc (Obj.cells #[Value.int IntKind.i64 h, Value.int IntKind.i64 (nextM mi t)] 36)).cell? ⟨w10.heap.size, 0, none⟩ = some (.int .i64 h) := World.cell?_alloc_at _ _ _ _ rfl
        have N1 : (w10.alloc (Obj.cells #[Value.int IntKind.i64 h, Value.int IntKind.i64 (nextM mi t)] 36)).cell? ⟨w10.heap.size, 1, none⟩ = some (.int .i64 (nextM mi t)) := World.cell?_alloc_at _ _ _ _ rfl
        have hB10 : Below W1.heap.size W1 (w10.alloc (Obj.cells #[Value.int IntKind.i64 h, Value.int IntKind.i64 (nextM mi t)] 36)) := hb10'.al _
        generalize (w10.alloc (Obj.cells #[Value.int IntKind.i64 h, Value.int IntKind.i64 (nextM mi t)] 36)) = w11 at *
        generalize w10.heap.size = nx at *
        rotate_left
        go_wp2_with fail
        obtain ⟨N0, N1, -, hg2⟩ := set2 w10 W1.heap.size (.int .i64 h) (.int .i64 (nextM mi t)) _ _ n0 n1
        have hB10 : Below W1.heap.size W1 ((w10.setCell ⟨W1.heap.size, 0, none⟩ (Value.int IntKind.i64 h)).setCell ⟨W1.heap.size, 1, none⟩ (Value.int IntKind.i64 (nextM mi t))) := (hb10'.setCell (Nat.le_refl _) _).setCell (Nat.le_refl _) _
        generalize ((w10.setCell ⟨W1.heap.size, 0, none⟩ (Value.int IntKind.i64 h)).setCell ⟨W1.heap.size, 1, none⟩ (Value.int IntKind.i64 (nextM mi t))) = w11 at *
        obtain ⟨nx, hnxe⟩ : ∃ nx, Hid (nx = W1.heap.size) := ⟨_, rfl⟩
        rw [← hnxe.out] at N0 N1 ⊢
        rotate_left
        all_goals
          rw [Hmj.out] at N1
          have M0 := keepc hB10 M0
          have M1 := keepc hB10 M1
          have M2 := keepc hB10 M2
          have s0 := keepc hB10 s0
          have s1 := keepc hB10 s1
          have qs := fun w => neState w h mj h mj
          have qg := gState
          have B11 : Below w9.heap.size w9 w11 := hbr.tr (BW.tr hB10)
          go_quiet (fail)
          rcases hjt : ((j0 : Int) == (at0 : Int)) with _ | _
          · go_wp2_with fail
            go_roundw
            case rel => exact ⟨k + 1, by omega, by go_num, by rw [HNO.out hjt], B11.drN _⟩
            case measure => simp [intOf]; omega
          · obtain ⟨hc1, hc2, hc3⟩ := HYES.out hjt
            have HC1 := Lib.hid hc1
            obtain ⟨b9, o9, rfl, hcs⟩ := HM9.out _ hc2
            rw [hc3] at hcs
            have hcg : ¬ (((((arcsL (maskL n h) h).take k).filter (fun a => a.2.2 == (at0 : Int))).length : Nat) : Int) ≥ ((((arcsL (maskL n h) h).filter (fun a => a.2.2 == (at0 : Int))).length : Nat) : Int) := by omega
            generalize (((arcsL (maskL n h) h).take k).filter (fun a => a.2.2 == (at0 : Int))).length = cn at *
            have z0 : w11.cell? ⟨b9, o9 + cn * 3, none⟩ = some (.int .i64 (i0 : Int)) := keepc B11 (hcs 0 _ rfl)
            have z1 : w11.cell? ⟨b9, o9 + cn * 3 + 1, none⟩ = some (.int .i64 t) := keepc B11 (hcs 1 _ rfl)
            have z2 : w11.cell? ⟨b9, o9 + cn * 3 + 2, none⟩ = some (.int .i64 (j0 : Int)) := keepc B11 (hcs 2 _ rfl)
            have qt := fun w => neArc w (i0 : Int) t (j0 : Int) (i0 : Int) t (j0 : Int)
            have qgt := gArc
            go_wp2_with fail
            go_quiet (fail)
            go_wp2_with fail
            go_roundw
            case rel => exact ⟨k + 1, by omega, by go_num, by rw [HC1.out]; go_num, by (repeat (first | (with_reducible assumption) | (with_reducible exact Below.refl _ _) | (with_reducible refine Below.setCell ?_ (by first | (simp; done) | (simp; omega)) _) | (with_reducible refine Below.al ?_ _) | (with_reducible refine Below.dr ?_) | (with_reducible refine Below.drN ?_ _) | (with_reducible refine Below.tr ?_ (by with_reducible assumption))))⟩
            case measure => simp [intOf]; omega
      · obtain rfl : k = (arcsL (maskL n h) h).length := by omega
        have HT : Hid ((arcsL (maskL n h) h).take (arcsL (maskL n h) h).length = arcsL (maskL n h) h) := List.take_length
        rw [HT.out]
        have te : (((((arcsL (maskL n h) h).filter (fun a => a.2.2 == (at0 : Int))).length : Nat) : Int) == ((((arcsL (maskL n h) h).filter (fun a => a.2.2 == (at0 : Int))).length : Nat) : Int)) = true := by simp
        go_wp2
        go_ret
        exact ⟨by simp, (B5.tr B9).tr hbr⟩
theorem own : ownKnob Try.prog.godebug = none := by kernel_rfl
theorem laidOut : laidOutB Try.prog = true := by kernel_rfl
set_option maxRecDepth 100000 in
theorem lifted (os : Os) (started : os.Started) (H : Type) (enc : TypeId × Value → H) :
    ReturnsInHanded {} Try.checked os 4 .any (Rows.fnGraphsSpec.pre6 enc Try.prog Try.f4 Rows.fnGraphsRow.domain false) (Rows.fnGraphsSpec.post enc Try.prog Try.f4 false true false false) := by
  refine returnsInHanded_of_change (C := Try.checked) own started (by kernel_rfl) Try.func4
    (ChangeSpec.witness6 (enc := enc) (C := Try.checked) false ⟨#[], #[.slice none 0 0, .slice none 0 0], []⟩ 8 (by kernel_rfl) (by kernel_rfl) (by kernel_rfl) (by kernel_rfl)) ?_
  intro W base args ds gs before hval0 hW hcnd _
  have hval : ∀ (j : Nat) t v, Try.f4.params[j]? = some t → args[j]? = some v → Value.okWide Try.prog W .any base t v := hval0
  have hW' := hW
  obtain ⟨p, q, hA0, hV, rfl, hfz, hnd⟩ := hW
  have hA : DataW.TrodAll enc Try.prog W 0 (fun _ => true) true Try.f4.params.toList args.toList ds p := hA0
  rw [Try.params4] at hA hval
  obtain ⟨v0, vs0, d0, ds0, p0, q0, hargs, rfl, rfl, h0, r0⟩ := trodAll_cons hA
  obtain ⟨v1, vs1, d1, ds1, p1, q1, rfl, rfl, rfl, h1, r1⟩ := trodAll_cons r0
  obtain ⟨rfl, rfl, rfl⟩ := trodAll_nil r1
  obtain rfl : args = #[v0, v1] := by cases args; simp_all
  obtain ⟨rfl, rfl⟩ := trodVars_none hV
  have k0 := h0
  have lt0 : ∀ x ∈ p0, x.block < W.heap.size := by obtain ⟨m, hm⟩ := k0; exact DataW.trod_lt m _ _ _ hm
  have a0 := open_bytes (hval 0 25 v0 rfl rfl) h0
  have k1 := h1
  have lt1 : ∀ x ∈ p1, x.block < W.heap.size := by obtain ⟨m, hm⟩ := k1; exact DataW.trod_lt m _ _ _ hm
  have a1 := open_bytes (hval 1 25 v1 rfl rfl) h1
  clear hA0 hval0
  refine (walk v0 v1 W a0 a1).mono fun e W' ⟨he, bel⟩ => ?_
  subst he
  exact ⟨_, rfl, _, _, _, [], _, [], hW', trodAll_mk1 (shut_bool Try.underlying4 _), (trodAll_cons_mk (Below.trod laidOut (by kernel_rfl) (of_decide_eq_true (by kernel_rfl)) k0 bel lt0) (trodAll_cons_mk (Below.trod laidOut (by kernel_rfl) (of_decide_eq_true (by kernel_rfl)) k1 bel lt1) trodAll_mk0)), rfl, bel.frame _, fun h => by cases h⟩
theorem over : Rows.fnGraphsRow.holds Try.pinned (OpenSpec.ofChange Rows.fnGraphsSpec) :=
  OpenClaim.holds_of_wide 4 Try.f4 rfl rfl rfl rfl rfl rfl rfl ⟨rfl, rfl, rfl, rfl, rfl⟩ rfl rfl rfl rfl rfl (by kernel_rfl) Try.func4 (by kernel_rfl)
    (of_decide_eq_true (by kernel_rfl)) (by unfold Func.isWrapper; first | (rw [if_pos (by decide +kernel)]; kernel_rfl) | (rw [if_neg (by decide +kernel)]; exact ⟨rfl, rfl⟩))
    (fun os started H enc _ => lifted os started H enc)
theorem proved : Rows.FnGraphsSaid := over
end fnGraphs
end Go.Proofs.Ytggffkklfdpmkaa
