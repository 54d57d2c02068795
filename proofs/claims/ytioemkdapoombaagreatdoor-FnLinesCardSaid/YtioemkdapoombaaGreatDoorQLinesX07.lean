/- The law LinesX: what it rests on, part 7 of 46. -/
import Derived.Deep.RegionHeld3
import Derived.Test.YtioemkdapoombaaGreatDoorRows
import Derived.ProofKit
import Derived.OpenShut
import Derived.ChangeOld
import Derived.Lib.SmallJoins
import Derived.Laws.ResultCell
import Derived.Deep.Slices
import Derived.Test.YtioemkdapoombaaGreatDoorQLinesX01
import Derived.Test.YtioemkdapoombaaGreatDoorQLinesX06
namespace Go.Proofs.YtioemkdapoombaaGreatDoor
open Go.ChangeShapes Go.WideShapes Go.ChangeAt Go.RowKit
set_option linter.unusedVariables false
theorem next_or' {m t : Int} (hm : 0 ≤ m ∧ m < 1024) (ht : 0 < t ∧ t ≤ 10) : bits .or .i64 (m / 2) (2 ^ (t.toNat - 1)) = nextM m t := by
  have := next_or hm ht
  rw [show (t - 1).toNat = t.toNat - 1 by omega] at this
  exact this
theorem c_impl_State_next (h m t : Int) (w : World) (hm : 0 ≤ m ∧ m < 1024) (ht : t ≤ 10) :
    Calls Tryz.prog 74 #[.agg #[.int .i64 h, .int .i64 m], .int .i64 t] w fun e w' => e = .returned (.agg #[.int .i64 h, .int .i64 (nextM m t)]) ∧ Below w.heap.size w w' := by
  by_cases h0 : 0 < t
  · have HN := Lib.hid (next_or' hm (And.intro h0 ht))
    have hp := pow_le_1024 (t.toNat - 1) (by omega)
    have hp1 := pow_pos_int (t.toNat - 1)
    go_enter Tryz.func74, Tryz.ntmps74
    go_wp2
    refine bodyPost_ret (v := .agg #[.int .i64 h, .int .i64 (bits BinOp.or IntKind.i64 (m / 2) (2 ^ (t.toNat - 1)))]) (by simp [results, Tryz.results74, go_sem]) rfl ⟨by rw [HN.out], by (repeat (first | (with_reducible assumption) | (with_reducible exact Below.refl _ _) | (with_reducible refine Below.setCell ?_ (by first | (simp; done) | (simp; omega)) _) | (with_reducible refine Below.al ?_ _) | (with_reducible refine Below.dr ?_) | (with_reducible refine Below.drN ?_ _) | (with_reducible refine Below.tr ?_ (by with_reducible assumption))))⟩
  · have HN := Lib.hid (next_zero m h0)
    go_enter Tryz.func74, Tryz.ntmps74
    go_wp2
    refine bodyPost_ret (v := .agg #[.int .i64 h, .int .i64 (m / 2)]) (by simp [results, Tryz.results74, go_sem]) rfl ⟨by rw [HN.out], by (repeat (first | (with_reducible assumption) | (with_reducible exact Below.refl _ _) | (with_reducible refine Below.setCell ?_ (by first | (simp; done) | (simp; omega)) _) | (with_reducible refine Below.al ?_ _) | (with_reducible refine Below.dr ?_) | (with_reducible refine Below.drN ?_ _) | (with_reducible refine Below.tr ?_ (by with_reducible assumption))))⟩
theorem c_spec_l08Next (h m t : Int) (w : World) (hm : 0 ≤ m ∧ m < 1024) (ht : t ≤ 10) :
    Calls Tryz.prog 37 #[.agg #[.int .i64 h, .int .i64 m], .int .i64 t] w fun e w' => e = .returned (.agg #[.int .i64 h, .int .i64 (nextM m t)]) ∧ Below w.heap.size w w' := by
  by_cases h0 : 0 < t
  · have HN := Lib.hid (next_or' hm (And.intro h0 ht))
    have hp := pow_le_1024 (t.toNat - 1) (by omega)
    have hp1 := pow_pos_int (t.toNat - 1)
    go_enter Tryz.func37, Tryz.ntmps37
    go_wp2
    refine bodyPost_ret (v := .agg #[.int .i64 h, .int .i64 (bits BinOp.or IntKind.i64 (m / 2) (2 ^ (t.toNat - 1)))]) (by simp [results, Tryz.results37, go_sem]) rfl ⟨by rw [HN.out], by (repeat (first | (with_reducible assumption) | (with_reducible exact Below.refl _ _) | (with_reducible refine Below.setCell ?_ (by first | (simp; done) | (simp; omega)) _) | (with_reducible refine Below.al ?_ _) | (with_reducible refine Below.dr ?_) | (with_reducible refine Below.drN ?_ _) | (with_reducible refine Below.tr ?_ (by with_reducible assumption))))⟩
  · have HN := Lib.hid (next_zero m h0)
    go_enter Tryz.func37, Tryz.ntmps37
    go_wp2
    refine bodyPost_ret (v := .agg #[.int .i64 h, .int .i64 (m / 2)]) (by simp [results, Tryz.results37, go_sem]) rfl ⟨by rw [HN.out], by (repeat (first | (with_reducible assumption) | (with_reducible exact Below.refl _ _) | (with_reducible refine Below.setCell ?_ (by first | (simp; done) | (simp; omega)) _) | (with_reducible refine Below.al ?_ _) | (with_reducible refine Below.dr ?_) | (with_reducible refine Below.drN ?_ _) | (with_reducible refine Below.tr ?_ (by with_reducible assumption))))⟩
def rowA (x : Int × Int × Int) : List Value := [.int .i64 x.1, .int .i64 x.2.1, .int .i64 x.2.2]
theorem rowA_len (x : Int × Int × Int) : (rowA x).length = 3 := rfl
theorem rowA_one (x : Int × Int × Int) : ∀ u ∈ rowA x, u.oneCell' = true := by
  intro u hu
  simp only [rowA, List.mem_cons, List.not_mem_nil, or_false] at hu
  rcases hu with rfl | rfl | rfl <;> rfl
abbrev OwnA (lo hi : Nat) (w : World) (v : Value) (xs : List (Int × Int × Int)) : Prop := OwnRow 160 3 rowA lo hi w v xs
theorem infoA : (Tryz.prog.info? 160).map (fun i => (i.zero, i.size, i.bytes)) = some (some (.agg #[.int .i64 0, .int .i64 0, .int .i64 0]), 3, 24) := by kernel_rfl
theorem getD_mem {L : List Int} {k : Nat} (hk : k < L.length) : L.getD k 0 ∈ L := by rw [List.getD_eq_getElem?_getD, List.getElem?_eq_getElem hk]; exact List.getElem_mem hk
theorem mask_bd {n h m : Int} (hh : 1 ≤ h ∧ h ≤ 10) (hm : m ∈ maskL n h) : 0 ≤ m ∧ m < 1024 := by
  have := (mem_maskL.1 hm).1
  have hp := pow_le_1024 h.toNat (by omega)
  omega
theorem maskL_len (n h : Int) (hh : 1 ≤ h ∧ h ≤ 10) : (maskL n h).length ≤ 1024 := by
  have h1 := maskTo_len n (2 ^ h.toNat)
  have h2 : 2 ^ h.toNat ≤ 2 ^ 10 := Nat.pow_le_pow_right (by decide) (by omega)
  unfold maskL
  omega
theorem arcsAt_take {L : List Int} {h : Int} {k j : Nat} (hj : j < (throwsL h (L.getD k 0)).length) :
    arcsTo L h k ++ (arcsAt L h k).take (j + 1) = (arcsTo L h k ++ (arcsAt L h k).take j) ++ [((k : Int), (throwsL h (L.getD k 0)).getD j 0, ((idx L (nextM (L.getD k 0) ((throwsL h (L.getD k 0)).getD j 0)) : Nat) : Int))] := by
  have hl : j < (arcsAt L h k).length := by unfold arcsAt; rw [List.length_map]; exact hj
  rw [take_snoc _ _ hl, List.append_assoc]
  congr 2
  have e : (throwsL h (L.getD k 0)).getD j 0 = (throwsL h (L.getD k 0))[j] := by rw [List.getD_eq_getElem?_getD, List.getElem?_eq_getElem hj]; rfl
  rw [e]
  simp only [arcsAt, List.getElem_map]
theorem arcsAt_full {L : List Int} {h : Int} {k j : Nat} (hj : ¬ j < (throwsL h (L.getD k 0)).length) : arcsTo L h k ++ (arcsAt L h k).take j = arcsTo L h (k + 1) := by
  rw [arcsTo_succ, List.take_of_length_le]
  unfold arcsAt; rw [List.length_map]; omega
set_option maxHeartbeats 8000000 in
set_option maxRecDepth 100000 in
theorem c_spec_l09Arcs (n h : Int) (v : Value) (w : World) (hh : 1 ≤ h ∧ h ≤ 10) (hr : RdI w v (maskL n h)) :
    Calls Tryz.prog 148 #[v, .int .i64 h] w fun e w' => ∃ v', e = .returned v' ∧ OwnA w.heap.size w'.heap.size w' v' (arcsL (maskL n h) h) ∧ Below w.heap.size w w' := by
  have hso := maskL_sorted n h
  have hlen := maskL_len n h hh
  have hbd : ∀ m ∈ maskL n h, 0 ≤ m ∧ m < 1024 := fun m hm => mask_bd hh hm
  have HNX : Hid (∀ m ∈ maskL n h, ∀ t, canB h m t = true → nextM m t ∈ maskL n h) := fun m hm t ht => next_mem hh hm ht
  have HBD := Lib.hid hbd
  generalize maskL n h = L at hso hlen HNX HBD hr
  clear hbd
  have hr' := hr
  obtain ⟨aL, capL, rfl, hlL, hcL⟩ := hr'
  have HSO := Lib.hid hso
  clear hso
  go_enter Tryz.func148, Tryz.ntmps148
  go_wp2
  go_loopw [5, 6, 7, 8, 9, 10] (fun out i _ _ _ _ wr => ∃ k : Nat, k ≤ L.length ∧ i = .int .i64 k ∧ OwnA w.heap.size wr.heap.size wr out (arcsTo L h k) ∧ Below w.heap.size w wr) (fun _ i _ _ _ _ _ => L.length - (intOf i).toNat)
  case atStart => exact ⟨0, by omega, rfl, (OwnRow.made rfl rfl (Nat.le_refl _)).tight, by (repeat (first | (with_reducible assumption) | (with_reducible exact Below.refl _ _) | (with_reducible refine Below.setCell ?_ (by first | (simp; done) | (simp; omega)) _) | (with_reducible refine Below.al ?_ _) | (with_reducible refine Below.dr ?_) | (with_reducible refine Below.drN ?_ _) | (with_reducible refine Below.tr ?_ (by with_reducible assumption))))⟩
  case round =>
    obtain ⟨k, hk, rfl, hout, hbr⟩ := hrel
    obtain ⟨wo, rfl⟩ : ∃ wo : World, wo = wr := ⟨_, rfl⟩
    by_cases hlt : k < L.length
    · obtain ⟨b1, o1, rfl, hx⟩ := hcL k hlt
      have hx1 : wo.cell? ⟨b1, o1 + k, none⟩ = some (.int .i64 (L.getD k 0)) := by rw [hbr.cell (p := ⟨b1, o1 + k, none⟩) (World.block_lt_of_cell? w _ hx)]; exact hx
      have hmem := Lib.hid (getD_mem hlt)
      have hmb := HBD.out _ hmem.out
      obtain ⟨m, Hm⟩ : ∃ m, Hid (L.getD k 0 = m) := ⟨_, rfl⟩
      rw [Hm.out] at hx1 hmb
      clear hx hcL
      go_wp2_with (go_at_call 35; refine (c_spec_l08Throws h m _ (by omega) hmb).mono ?_; rintro e w3 ⟨tv, rfl, hot, hb3⟩; have hlt3 := World.ownsRow.lt hot; obtain ⟨att, capt, rfl, hlT, hcT⟩ := hot.rd)
      have hz3 : wo.heap.size < w3.heap.size := Nat.lt_of_lt_of_le (by simp) hb3.size
      have q0 : w3.cell? ⟨wo.heap.size, 0, none⟩ = some (.int .i64 h) := by obtain ⟨hc3, _⟩ := bcell hb3; go_simp
      have q1 : w3.cell? ⟨wo.heap.size, 1, none⟩ = some (.int .i64 m) := by obtain ⟨hc3, _⟩ := bcell hb3; go_simp
      have hlo : wo.heap.size ≤ (wo.alloc (Obj.cells #[Value.int IntKind.i64 h, Value.int IntKind.i64 m] 25)).heap.size := by simp
      have hT : ∀ t ∈ throwsL h m, (0 ≤ t ∧ t ≤ h) ∧ canB h m t = true := fun t ht => (mem_throwsL (by omega)).1 ht
      have HT := Lib.hid hT
      have hTl : (throwsL h m).length ≤ 11 := by have := throwsTo_len h m (h + 1).toNat; unfold throwsL; omega
      have HTK := Lib.hid (fun j => arcsAt_take (L := L) (h := h) (k := k) (j := j))
      have HTF := Lib.hid (fun j => arcsAt_full (L := L) (h := h) (k := k) (j := j))
      rw [Hm.out] at HTK HTF
      have hal := Lib.hid (arcsTo_len L h k (by omega))
      have hw2o := hbr.size
      have B3 : Below w.heap.size w w3 := by (repeat (first | (with_reducible assumption) | (with_reducible exact Below.refl _ _) | (with_reducible refine Below.setCell ?_ (by first | (simp; done) | (simp; omega)) _) | (with_reducible refine Below.al ?_ _) | (with_reducible refine Below.dr ?_) | (with_reducible refine Below.drN ?_ _) | (with_reducible refine Below.tr ?_ (by with_reducible assumption))))
      have hout3 : OwnA w.heap.size wo.heap.size w3 u5 (arcsTo L h k) := (hout.al _).below hb3
      clear hT hot hb3
      generalize hTn : throwsL h m = T at hlT hcT HT hTl HTK HTF
      clear hTn
      go_wp2
      go_loopw [5, 9, 10] (fun out i _ wr => ∃ j : Nat, j ≤ T.length ∧ i = .int .i64 j ∧ OwnA w.heap.size wr.heap.size wr out (arcsTo L h k ++ (arcsAt L h k).take j) ∧ Below w.heap.size w wr ∧ Same wo.heap.size w3.heap.size w3 wr ∧ Hid (∀ b, out.ownBlock = some b → b < wo.heap.size ∨ w3.heap.size ≤ b)) (fun _ i _ _ => T.length - (intOf i).toNat)
      case atStart => exact ⟨0, by omega, rfl, by simpa using hout3.tight, B3, Same.refl (Nat.le_refl _), fun b hb => Or.inl (hout3.2 b hb)⟩
      case round =>
        obtain ⟨j, hj, rfl, houtj, hbj, hsm, hoff⟩ := hrel
        obtain ⟨wi, rfl⟩ : ∃ wi : World, wi = wr := ⟨_, rfl⟩
        have hw2j := hbj.size
        have hsm1 := hsm.1
        by_cases hjlt : j < T.length
        · obtain ⟨b2, o2, rfl, hy⟩ := hcT j hjlt
          have hb2r := hlt3 b2 rfl
          have hy' : wi.cell? ⟨b2, o2 + j, none⟩ = some (.int .i64 (T.getD j 0)) := by rw [hsm.cell (by omega) hb2r.2]; exact hy
          have p0 : wi.cell? ⟨wo.heap.size, 0, none⟩ = some (.int .i64 h) := by rw [hsm.cell (Nat.le_refl _) hz3]; exact q0
          have p1 : wi.cell? ⟨wo.heap.size, 1, none⟩ = some (.int .i64 m) := by rw [hsm.cell (Nat.le_refl _) hz3]; exact q1
          have htm := HT.out _ (getD_mem hjlt)
          have hnx := HNX.out _ hmem.out (T.getD j 0) (by rw [Hm.out]; exact htm.2)
          rw [Hm.out] at hnx
          have HMEM := Lib.hid hnx
          have HK := Lib.hid (HTK.out j hjlt)
          have htb := htm.1
          obtain ⟨t, Ht⟩ : ∃ t, Hid (T.getD j 0 = t) := ⟨_, rfl⟩
          rw [Ht.out] at hy' HMEM HK htb
          have hll : (arcsTo L h k ++ (arcsAt L h k).take j).length < 1000000000 := by
            rw [List.length_append, List.length_take]
            have h1 := hal.out
            have h2 := arcsAt_len L h k (by omega)
            omega
          have hin0 : (0 : Int) ≤ (j : Int) := Int.natCast_nonneg _
          have hin1 : (j : Int) < (T.length : Int) := by omega
          have hb2s : b2 < wi.heap.size := by omega
          have hwos : wo.heap.size < wi.heap.size := by omega
          have hne1 : ¬ wi.heap.size = wo.heap.size := by omega
          have hne2 : ¬ wi.heap.size = b2 := by omega
          clear hy htm hnx hcT
          go_wp2_with fail
          go_region_held3 (fun w' => w'.cell? ⟨wo.heap.size, 0, none⟩ = some (.int .i64 h) ∧ w'.cell? ⟨wo.heap.size, 1, none⟩ = some (.int .i64 m) ∧ w'.cell? ⟨b2, o2 + j, none⟩ = some (.int .i64 t))
            (go_keep)
            ((go_at_call 37; refine (c_spec_l08Next h m t _ hmb (by omega)).mono ?_; rintro e w4 ⟨rfl, hb4⟩; first | (have hb4' := below_new hb4; obtain ⟨hc4, _⟩ := bcell hb4'; have hz4 : wi.heap.size < w4.heap.size := new_lt hb4; obtain ⟨n0, f0⟩ := new_cell hb4 0 _ rfl; obtain ⟨n1, f1⟩ := new_cell hb4 1 _ rfl) | (have hb4' := below_drew hb4; obtain ⟨hc4, _⟩ := bcell hb4'; have hz4 := hb4'.size)))
          · go_wp2_with fail
            rename_i hHeldX
            have c2 := hHeldX.2.2
            have cn : (w4.alloc (Obj.cells #[Value.int IntKind.i64 h, Value.int IntKind.i64 (nextM m t)] 25)).cell? ⟨w4.heap.size, 1, none⟩ = some (.int .i64 (nextM m t)) := by rw [World.cell?_alloc_at _ _ _ _ rfl]; rfl
            have hB5 : Below wi.heap.size wi (w4.alloc (Obj.cells #[Value.int IntKind.i64 h, Value.int IntKind.i64 (nextM m t)] 25)) := hb4'.al _
            have hnb : w4.heap.size < (w4.alloc (Obj.cells #[Value.int IntKind.i64 h, Value.int IntKind.i64 (nextM m t)] 25)).heap.size := World.block_lt_of_cell? _ _ cn
            have hwn : wi.heap.size ≤ w4.heap.size := hz4
            generalize (w4.alloc (Obj.cells #[Value.int IntKind.i64 h, Value.int IntKind.i64 (nextM m t)] 25)) = w5 at *
            have hr5 : RdI w5 (.slice (some ⟨b1, o1, none⟩) L.length capL) L := hr.below (hbj.trans (hB5.mono hw2j))
            have hr5d : RdI w5.drew (.slice (some ⟨b1, o1, none⟩) L.length capL) L := hr5
            have ho5 : OwnA w.heap.size wi.heap.size w5 u5 (arcsTo L h k ++ (arcsAt L h k).take j) := houtj.below hB5
            have hB5w : Below w.heap.size w w5 := hbj.trans (hB5.mono hw2j)
            have hsm5 := hsm.below hB5
            have hb25 : b2 < w5.heap.size := World.block_lt_of_cell? _ _ c2
            have hneb2 : u5.ownBlock ≠ some b2 := fun e => by have := hoff.out b2 e; omega
            have hnenb : u5.ownBlock ≠ some (w4.heap.size) := fun e => by have := houtj.2 _ e; omega
            have hz5 := hB5w.size
            have hll6 : L.length ≤ 1000000 := by omega
            clear hHeldX
            go_region_held3 (fun w' => w'.cell? ⟨b2, o2 + j, none⟩ = some (.int .i64 t) ∧ w'.cell? ⟨w4.heap.size, 1, none⟩ = some (.int .i64 (nextM m t)))
              (go_keep)
              (first
                | ((go_at_call 150; refine (c_spec_l09Find L (nextM m t) _ _ hr5d HSO.out HMEM.out hll6).mono ?_; rintro e w6 ⟨rfl, rfl⟩))
                | ((refine step_push_row (row := rowA) rfl _ _ _ _ rfl Tryz.underlying157 (.agg #[.int .i64 0, .int .i64 0, .int .i64 0]) 24 infoA rfl (by decide) (by decide) rowA_len w.heap.size wi.heap.size w5.heap.size u5 (arcsTo L h k ++ (arcsAt L h k).take j) ((k : Int), t, ((idx L (nextM m t) : Nat) : Int)) #[.int .i64 (k : Int), .int .i64 t, .int .i64 ((idx L (nextM m t) : Nat) : Int)] _ rfl (rowA_one _) rfl rfl (heap_alloc_new w5 _) (ho5.al _) hll ?_ ?_; exact Nat.le_trans hz5 (Nat.le_of_lt (Nat.lt_of_lt_of_le (Nat.lt_succ_self _) (Nat.le_of_eq (World.size_alloc w5 _).symm))); intro v7 w7 hown7 hg7 hat7 hs7; have r1 := grown_cell hg7 _ _ _ c2 hneb2; have r2 := grown_cell hg7 _ _ _ cn hnenb)))
            have hBa : Below w.heap.size w (w5.alloc (Obj.cells #[Value.int IntKind.i64 (k : Int), Value.int IntKind.i64 t, Value.int IntKind.i64 ((idx L (nextM m t) : Nat) : Int)] 160)).drew := by (repeat (first | (with_reducible assumption) | (with_reducible exact Below.refl _ _) | (with_reducible refine Below.setCell ?_ (by first | (simp; done) | (simp; omega)) _) | (with_reducible refine Below.al ?_ _) | (with_reducible refine Below.dr ?_) | (with_reducible refine Below.drN ?_ _) | (with_reducible refine Below.tr ?_ (by with_reducible assumption))))
            have hsa : (w5.alloc (Obj.cells #[Value.int IntKind.i64 (k : Int), Value.int IntKind.i64 t, Value.int IntKind.i64 ((idx L (nextM m t) : Nat) : Int)] 160)).drew.heap.size = w5.heap.size + 1 := World.size_alloc _ _
            go_wp2
            go_roundw
            case rel => exact ⟨j + 1, by omega, by go_num, by rw [HK.out]; exact hown7, hBa.grown hg7 hBa.size (fun q hq => (World.ownsRow.lt houtj.1 q hq).1), (hsm5.below (((Below.refl _ _).al _).dr)).grown hg7 hoff.out, fun q hq => by
              rcases hat7 with he | he
              · exact hoff.out q (he.symm.trans hq)
              · have e2 := he.symm.trans hq; simp only [Option.some.injEq] at e2; have := hsm5.1; right; omega⟩
            case measure => simp [intOf]; omega
          · go_wp2_with fail
            rename_i hHeldX
            have c2 := hHeldX.2.2
            have cn : ((w4.setCell ⟨wi.heap.size, 0, none⟩ (Value.int IntKind.i64 h)).setCell ⟨wi.heap.size, 1, none⟩ (Value.int IntKind.i64 (nextM m t))).cell? ⟨wi.heap.size, 1, none⟩ = some (.int .i64 (nextM m t)) := World.cell?_setCell_same _ _ _ (by rw [World.cell?_setCell_other _ _ _ _ (by simp)]; exact n1)
            have hB5 : Below wi.heap.size wi ((w4.setCell ⟨wi.heap.size, 0, none⟩ (Value.int IntKind.i64 h)).setCell ⟨wi.heap.size, 1, none⟩ (Value.int IntKind.i64 (nextM m t))) := (hb4'.setCell (Nat.le_refl _) _).setCell (Nat.le_refl _) _
            have hnb : wi.heap.size < ((w4.setCell ⟨wi.heap.size, 0, none⟩ (Value.int IntKind.i64 h)).setCell ⟨wi.heap.size, 1, none⟩ (Value.int IntKind.i64 (nextM m t))).heap.size := World.block_lt_of_cell? _ _ cn
            have hwn : wi.heap.size ≤ wi.heap.size := Nat.le_refl _
            generalize ((w4.setCell ⟨wi.heap.size, 0, none⟩ (Value.int IntKind.i64 h)).setCell ⟨wi.heap.size, 1, none⟩ (Value.int IntKind.i64 (nextM m t))) = w5 at *
            have hr5 : RdI w5 (.slice (some ⟨b1, o1, none⟩) L.length capL) L := hr.below (hbj.trans (hB5.mono hw2j))
            have hr5d : RdI w5.drew (.slice (some ⟨b1, o1, none⟩) L.length capL) L := hr5
            have ho5 : OwnA w.heap.size wi.heap.size w5 u5 (arcsTo L h k ++ (arcsAt L h k).take j) := houtj.below hB5
            have hB5w : Below w.heap.size w w5 := hbj.trans (hB5.mono hw2j)
            have hsm5 := hsm.below hB5
            have hb25 : b2 < w5.heap.size := World.block_lt_of_cell? _ _ c2
            have hneb2 : u5.ownBlock ≠ some b2 := fun e => by have := hoff.out b2 e; omega
            have hnenb : u5.ownBlock ≠ some (wi.heap.size) := fun e => by have := houtj.2 _ e; omega
            have hz5 := hB5w.size
            have hll6 : L.length ≤ 1000000 := by omega
            clear hHeldX
            go_region_held3 (fun w' => w'.cell? ⟨b2, o2 + j, none⟩ = some (.int .i64 t) ∧ w'.cell? ⟨wi.heap.size, 1, none⟩ = some (.int .i64 (nextM m t)))
              (go_keep)
              (first
                | ((go_at_call 150; refine (c_spec_l09Find L (nextM m t) _ _ hr5d HSO.out HMEM.out hll6).mono ?_; rintro e w6 ⟨rfl, rfl⟩))
                | ((refine step_push_row (row := rowA) rfl _ _ _ _ rfl Tryz.underlying157 (.agg #[.int .i64 0, .int .i64 0, .int .i64 0]) 24 infoA rfl (by decide) (by decide) rowA_len w.heap.size wi.heap.size w5.heap.size u5 (arcsTo L h k ++ (arcsAt L h k).take j) ((k : Int), t, ((idx L (nextM m t) : Nat) : Int)) #[.int .i64 (k : Int), .int .i64 t, .int .i64 ((idx L (nextM m t) : Nat) : Int)] _ rfl (rowA_one _) rfl rfl (heap_alloc_new w5 _) (ho5.al _) hll ?_ ?_; exact Nat.le_trans hz5 (Nat.le_of_lt (Nat.lt_of_lt_of_le (Nat.lt_succ_self _) (Nat.le_of_eq (World.size_alloc w5 _).symm))); intro v7 w7 hown7 hg7 hat7 hs7; have r1 := grown_cell hg7 _ _ _ c2 hneb2; have r2 := grown_cell hg7 _ _ _ cn hnenb)))
            have hBa : Below w.heap.size w (w5.alloc (Obj.cells #[Value.int IntKind.i64 (k : Int), Value.int IntKind.i64 t, Value.int IntKind.i64 ((idx L (nextM m t) : Nat) : Int)] 160)).drew := by (repeat (first | (with_reducible assumption) | (with_reducible exact Below.refl _ _) | (with_reducible refine Below.setCell ?_ (by first | (simp; done) | (simp; omega)) _) | (with_reducible refine Below.al ?_ _) | (with_reducible refine Below.dr ?_) | (with_reducible refine Below.drN ?_ _) | (with_reducible refine Below.tr ?_ (by with_reducible assumption))))
            have hsa : (w5.alloc (Obj.cells #[Value.int IntKind.i64 (k : Int), Value.int IntKind.i64 t, Value.int IntKind.i64 ((idx L (nextM m t) : Nat) : Int)] 160)).drew.heap.size = w5.heap.size + 1 := World.size_alloc _ _
            go_wp2
            go_roundw
            case rel => exact ⟨j + 1, by omega, by go_num, by rw [HK.out]; exact hown7, hBa.grown hg7 hBa.size (fun q hq => (World.ownsRow.lt houtj.1 q hq).1), (hsm5.below (((Below.refl _ _).al _).dr)).grown hg7 hoff.out, fun q hq => by
              rcases hat7 with he | he
              · exact hoff.out q (he.symm.trans hq)
              · have e2 := he.symm.trans hq; simp only [Option.some.injEq] at e2; have := hsm5.1; right; omega⟩
            case measure => simp [intOf]; omega
        · have HF := Lib.hid (HTF.out j hjlt)
          clear hcT
          go_wp2
          go_roundw
          case rel => exact ⟨k + 1, by omega, by go_num, by rw [← HF.out]; exact houtj, hbj⟩
          case measure => simp [intOf]; omega
    · obtain rfl : k = L.length := by omega
      go_wp2
      go_ret
      exact ⟨_, rfl, hout, hbr⟩
end Go.Proofs.YtioemkdapoombaaGreatDoor
