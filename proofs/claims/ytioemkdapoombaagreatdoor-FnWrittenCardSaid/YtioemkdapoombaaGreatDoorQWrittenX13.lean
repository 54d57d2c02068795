/- The law WrittenX: what it rests on, part 13 of 46. -/
import Derived.Deep.LoopGhost
import Derived.Test.YtioemkdapoombaaGreatDoorQWrittenX05
import Derived.Test.YtioemkdapoombaaGreatDoorQWrittenX06
import Derived.Test.YtioemkdapoombaaGreatDoorQWrittenX07
import Derived.Test.YtioemkdapoombaaGreatDoorQWrittenX08
section
set_option linter.unusedVariables false
namespace Go.Proofs.YtioemkdapoombaaGreatDoor
open Go.ChangeShapes Go.WideShapes Go.ChangeAt Go.RowKit
end Go.Proofs.YtioemkdapoombaaGreatDoor
end
section
set_option linter.unusedVariables false
namespace Go.Proofs.YtioemkdapoombaaGreatDoor
open Go.ChangeShapes Go.WideShapes Go.ChangeAt Go.RowKit
set_option linter.unusedSimpArgs false
theorem zeroS (w : World) : (zeroValue 26).run Tryz.prog w = .ok (.slice none 0 0) w := by kernel_rfl
set_option maxHeartbeats 2000000 in
set_option maxRecDepth 100000 in
theorem c_impl_distancesTo (h m : Int) (w : World) (hh : 1 ≤ h ∧ h ≤ 10) (hm : 0 ≤ m ∧ m < 2 ^ h.toNat) :
    Calls Tryz.prog 113 #[.agg #[.int .i64 h, .int .i64 m]] w fun e w' => ∃ b n, e = .returned (.map (some b)) ∧ OwnM1 w.heap.size w'.heap.size w' b n (dist (adjG (maskL (popI m) h) h) m) ∧ Below w.heap.size w w' := by
  have hmm := @run_makeMap Tryz.prog
  have hmb : 0 ≤ m ∧ m < 1024 := by have := pow_le_1024 h.toNat (by omega); omega
  have hhb : 0 ≤ h ∧ h ≤ 10 := by omega
  obtain ⟨W0, hW0⟩ : ∃ W0, W0 = (w.alloc (Obj.cells #[Value.int IntKind.i64 h, Value.int IntKind.i64 m] 25)).alloc (Obj.map #[] 0) := ⟨_, rfl⟩
  have k0 : W0.cell? ⟨w.heap.size, 0, none⟩ = some (.int .i64 h) := by rw [hW0]; go_simp
  have k1 : W0.cell? ⟨w.heap.size, 1, none⟩ = some (.int .i64 m) := by rw [hW0]; go_simp
  have hmap : W0.heap[w.heap.size + 1]? = some (.map #[] 0) := by
    rw [hW0]
    have h1 := (MapKept.heap_alloc (w.alloc (Obj.cells #[Value.int IntKind.i64 h, Value.int IntKind.i64 m] 25)) (.map #[] 0)).1
    rwa [World.size_alloc] at h1
  have B0 : Below w.heap.size w W0 := by rw [hW0]; (repeat (first | (with_reducible assumption) | (with_reducible exact Below.refl _ _) | (with_reducible refine Below.setCell ?_ (by first | (simp; done) | (simp; omega)) _) | (with_reducible refine Below.al ?_ _) | (with_reducible refine Below.dr ?_) | (with_reducible refine Below.drN ?_ _) | (with_reducible refine Below.tr ?_ (by with_reducible assumption))))
  have hs0 : w.heap.size + 2 = W0.heap.size := by rw [hW0]; simp
  have HS0 := Lib.hid hs0
  clear hs0
  go_enter Tryz.func113, Tryz.ntmps113
  go_wp2_with fail
  rw [← hW0]
  clear hW0 hmm
  go_region_held3 (fun w' => w'.cell? ⟨w.heap.size, 0, none⟩ = some (.int .i64 h) ∧ w'.cell? ⟨w.heap.size, 1, none⟩ = some (.int .i64 m))
    (go_keep)
    (first
      | ((go_at_call 134; refine (c_impl_State_props h m _ hhb hm).mono ?_; rintro e w2 ⟨rfl, hb2⟩; have hb2' := below_drew hb2; have j0 := keepc hb2' k0; have j1 := keepc hb2' k1))
      | ((go_at_call 133; refine (c_impl_allStates (popI m) h _ hhb).mono ?_; rintro e w3 ⟨v3, rfl, ho3, hb3⟩; have n0 := keepc hb3 j0; have n1 := keepc hb3 j1; have hr3 := OwnRow.rd (rowS_len h) ho3; obtain ⟨a3, cap3, rfl, hl3, _⟩ := hr3)))
  have hs0 := HS0.out
  have hs2 := hb2'.size
  have hs3 := hb3.size
  have hmap3 : w3.heap[w.heap.size + 1]? = some (.map #[] 0) := by
    rw [hb3.block _ (by omega), hb2'.block _ (by omega)]; exact hmap
  have B3 : Below w.heap.size w w3 := (B0.tr hb2').tr hb3
  have hlt3 := World.ownsRow.lt ho3.1
  have hlen := maskL_len (popI m) h hh
  have hL0 : Hid (m ∈ maskL (popI m) h) := mem_maskL.2 ⟨hm, rfl⟩
  have HBD := Lib.hid (fun x => fun hx => mask_bd (n := popI m) (h := h) (m := x) hh hx)
  have HC := Lib.hid (fun x t => fun hx hc => next_mem (n := popI m) (h := h) (m := x) (t := t) hh hx hc)
  generalize hLn : maskL (popI m) h = L at *
  have HLn := Lib.hid hLn
  obtain ⟨_, _, he3, _, hc3⟩ := OwnRow.rd (rowS_len h) ho3
  cases he3
  clear hLn hb3 hb2' hb2 hmap ho3 j0 j1 k0 k1
  have hL1 : L.length ≤ 1024 := hlen
  have hI0 : OwnMG Tryz.prog 2 2 (fun q => w3.heap.size ≤ q) w3 (w.heap.size + 1) (arcsMTo L h 0).length (grp (arcsMTo L h 0)) := OwnMG.made hmap3 (by omega)
  have HAL := Lib.hid (fun k => arcsMTo_len L h k hhb)
  clear hmap3
  go_wp2
  go_loopw [24] (fun i wr => ∃ k : Nat, k ≤ L.length ∧ i = .int .i64 k ∧ OwnMG Tryz.prog 2 2 (fun q => w3.heap.size ≤ q) wr (w.heap.size + 1) (arcsMTo L h k).length (grp (arcsMTo L h k)) ∧ w3.grownBy wr (some (w.heap.size + 1))) (fun i _ => L.length - (intOf i).toNat)
  case atStart => exact ⟨0, by omega, rfl, hI0, grownBy_refl _ _⟩
  case round =>
    clear hI0
    obtain ⟨k, hk, rfl, hM, hg3⟩ := hrel
    have hgs := hg3.size
    obtain ⟨wo, rfl⟩ : ∃ wo : World, wo = wr := ⟨_, rfl⟩
    by_cases hlt : k < L.length
    · obtain ⟨b1, o1, rfl, hx⟩ := hc3 k hlt
      have hb1 := hlt3 b1 rfl
      have hx0 : wo.cell? ⟨b1, o1 + k * 2, none⟩ = some (.int .i64 h) := hg3.cell (a := ⟨b1, o1 + k * 2, none⟩) (hx 0 _ rfl) (fun e => by simp only [Option.some.injEq] at e; omega)
      have hx1 : wo.cell? ⟨b1, o1 + k * 2 + 1, none⟩ = some (.int .i64 (L.getD k 0)) := by
        refine hg3.cell (a := ⟨b1, o1 + k * 2 + 1, none⟩) ?_ (fun e => by simp only [Option.some.injEq] at e; omega)
        have h1 := hx 1 (.int .i64 L[k]) rfl
        rw [h1]; simp [List.getD, hlt]
      have hxL := Lib.hid (getD_mem hlt)
      have hxb := HBD.out _ hxL.out
      have hTl : (throwsL h (L.getD k 0)).length ≤ 11 := by have := throwsTo_len h (L.getD k 0) (h + 1).toNat; unfold throwsL; omega
      have HT := Lib.hid (fun t => fun ht => (mem_throwsL (m := L.getD k 0) (t := t) (show 0 ≤ h by omega)).1 ht)
      have HTK := Lib.hid (fun j => arcsMAt_take (L := L) (h := h) (k := k) (j := j))
      have HTF := Lib.hid (fun j => arcsMAt_full (L := L) (h := h) (k := k) (j := j))
      have HTN := Lib.hid (arcsMAt_len L h k)
      have hal := HAL.out k
      obtain ⟨x, Hx⟩ : ∃ x, Hid (L.getD k 0 = x) := ⟨_, rfl⟩
      rw [Hx.out] at hx1 hxL hxb hTl HT HTK HTF HTN
      have hneb : ¬ wo.heap.size = b1 := by omega
      clear hx hc3
      go_wp2_with (go_at_call 114; refine (c_impl_State_throws h x _ hhb hxb).mono ?_; rintro e w4 ⟨tv, rfl, hot, hb4⟩; have hlt4 := World.ownsRow.lt hot; obtain ⟨att, capt, rfl, hlT, hcT⟩ := hot.rd)
      have hwa : (wo.alloc (Obj.cells #[Value.int IntKind.i64 h, Value.int IntKind.i64 x] 25)).heap.size = wo.heap.size + 1 := World.size_alloc _ _
      have hs4 := hb4.size
      have q0 : w4.cell? ⟨wo.heap.size, 0, none⟩ = some (.int .i64 h) := keepc hb4 (World.cell?_alloc_at _ _ _ _ rfl)
      have q1 : w4.cell? ⟨wo.heap.size, 1, none⟩ = some (.int .i64 x) := keepc hb4 (World.cell?_alloc_at _ _ _ _ rfl)
      have hz4 : wo.heap.size < w4.heap.size := by omega
      have B4 : Below wo.heap.size wo w4 := by (repeat (first | (with_reducible assumption) | (with_reducible exact Below.refl _ _) | (with_reducible refine Below.setCell ?_ (by first | (simp; done) | (simp; omega)) _) | (with_reducible refine Below.al ?_ _) | (with_reducible refine Below.dr ?_) | (with_reducible refine Below.drN ?_ _) | (with_reducible refine Below.tr ?_ (by with_reducible assumption))))
      have hM4 : OwnMG Tryz.prog 2 2 (fun q => w3.heap.size ≤ q ∧ (q < wo.heap.size ∨ w4.heap.size ≤ q)) w4 (w.heap.size + 1) (arcsMTo L h k ++ (arcsMAt L h k).take 0).length (grp (arcsMTo L h k ++ (arcsMAt L h k).take 0)) := by
        rw [List.take_zero, List.append_nil]
        exact (hM.restrict (fun q h1 h2 => ⟨h1, Or.inl h2⟩) (by omega)).below B4
      have hg4 : w3.grownBy w4 (some (w.heap.size + 1)) := grownBy_far hg3 (grownBy_of_below none B4) (fun g hg => by cases hg)
      have hlo4 : wo.heap.size ≤ (wo.alloc (Obj.cells #[Value.int IntKind.i64 h, Value.int IntKind.i64 x] 25)).heap.size := by omega
      clear hM hg3 hot hb4 hx0 hx1
      generalize throwsL h x = T at *
      go_wp2
      go_loopw [31] (fun i wr => ∃ j : Nat, j ≤ T.length ∧ i = .int .i64 j ∧ OwnMG Tryz.prog 2 2 (fun q => w3.heap.size ≤ q ∧ (q < wo.heap.size ∨ w4.heap.size ≤ q)) wr (w.heap.size + 1) (arcsMTo L h k ++ (arcsMAt L h k).take j).length (grp (arcsMTo L h k ++ (arcsMAt L h k).take j)) ∧ Same wo.heap.size w4.heap.size w4 wr ∧ w3.grownBy wr (some (w.heap.size + 1))) (fun i _ => T.length - (intOf i).toNat)
      case atStart => exact ⟨0, by omega, rfl, hM4, Same.refl (Nat.le_refl _), hg4⟩
      case round =>
        clear hM4 hg4
        obtain ⟨j, hj, rfl, hM, hsm, hg3⟩ := hrel
        have hsm1 := hsm.1
        have hgs3 := hg3.size
        have hzr : wo.heap.size < wr.heap.size := Nat.lt_of_lt_of_le hz4 hsm1
        by_cases hjlt : j < T.length
        · obtain ⟨b2, o2, rfl, hy⟩ := hcT j hjlt
          have hb2r := hlt4 b2 rfl
          have hy' : wr.cell? ⟨b2, o2 + j, none⟩ = some (.int .i64 (T.getD j 0)) := by rw [hsm.cell (by omega) hb2r.2]; exact hy
          have p0 : wr.cell? ⟨wo.heap.size, 0, none⟩ = some (.int .i64 h) := by rw [hsm.cell (Nat.le_refl _) hz4]; exact q0
          have p1 : wr.cell? ⟨wo.heap.size, 1, none⟩ = some (.int .i64 x) := by rw [hsm.cell (Nat.le_refl _) hz4]; exact q1
          have htm := HT.out _ (getD_mem hjlt)
          have hnx := HC.out x (T.getD j 0) hxL.out htm.2
          have hnb := HBD.out _ hnx
          have HK := Lib.hid (HTK.out j hjlt)
          have htb := htm.1
          obtain ⟨t, Ht⟩ : ∃ t, Hid (T.getD j 0 = t) := ⟨_, rfl⟩
          rw [Ht.out] at hy' hnb HK htb
          have hnl : (arcsMTo L h k ++ (arcsMAt L h k).take j).length < 1000000 := by
            rw [List.length_append, List.length_take]
            omega
          have HG := Lib.hid (grp_snoc (arcsMTo L h k ++ (arcsMAt L h k).take j) x (nextM x t))
          have HGL : Hid (∀ z, (grp (arcsMTo L h k ++ (arcsMAt L h k).take j) z).length < 1000000) := fun z => by
            unfold grp
            rw [List.length_map]
            exact Nat.lt_of_le_of_lt (List.length_filter_le _ _) hnl
          have HGA : Hid ((arcsMTo L h k ++ (arcsMAt L h k).take (j + 1)).length = (arcsMTo L h k ++ (arcsMAt L h k).take j).length + 1) := by
            unfold Hid; rw [HK.out]; simp only [List.length_append, List.length_singleton]
          have hfld := fld1
          obtain ⟨A, HA⟩ : ∃ A, Hid (arcsMTo L h k ++ (arcsMAt L h k).take j = A) := ⟨_, rfl⟩
          rw [HA.out] at hM hnl HG HGL HGA HK
          have hwf : ∀ y : Int, 0 ≤ y ∧ y < 1024 → -9223372036854775808 ≤ y ∧ y ≤ 9223372036854775807 := fun y hy => by omega
          clear hy htm hnx hcT HTK HTF
          go_wp2_with (first
            | (go_at_call 74; refine (c_impl_State_next h x t _ hxb (by omega)).mono ?_; rintro e w5 ⟨rfl, hb5⟩
               have hs5 := hb5.size
               have p1' := keepc hb5 p1
               have hM5 := hM.below hb5
               obtain ⟨v5, hrun5, hoi5, hS5, hback5⟩ := hM5.get Tryz.underlying145 Tryz.underlying2 (zeroS _) (by omega) (nextM x t) (hwf _ hnb)
               have hp5 : wo.heap.size < w5.heap.size := by omega)
            | (at_builtin; refine push_int_at rfl _ _ _ _ rfl Tryz.underlying26 infoI 0 _ _ _ w5 rfl rfl (by exact hoi5) (Nat.lt_of_lt_of_le (HGL.out _) (by omega)) (by omega) ?_; intro v6 w6 ho6 hg6 hat6 hs6
               obtain ⟨w7, hrun7, hM7, hg7⟩ := hback5 w6 v6 _ hg6 ho6 (fun g hg => by
                 rcases hat6 with he | he
                 · exact hS5 g (he ▸ hg)
                 · rw [he] at hg; cases hg; exact ⟨by omega, Or.inr (by omega)⟩) (hat6.imp id (fun h => ⟨_, h, by omega⟩))))
          have G5 := grownBy_far hg3 (grownBy_of_below none hb5) (fun g hg => by cases hg)
          have G7 := grownBy_trans (grownBy_far G5 hg6 (fun g hg => (hS5 g hg).1)) hg7
          go_roundw
          case rel => exact ⟨j + 1, by omega, by go_num, by rw [HGA.out, HK.out, HG.out]; exact hM7, ((hsm.below hb5).grown hg6 (fun g hg => (hS5 g hg).2)).grown hg7 (fun g hg => by cases hg; left; omega), G7⟩
          case measure => simp [intOf]; omega
        · have HF := Lib.hid (HTF.out j hjlt)
          clear hcT
          go_wp2
          go_roundw
          case rel => exact ⟨k + 1, by omega, by go_num, by rw [← HF.out]; exact hM.restrict (fun q h1 _ => h1.1) (by omega), hg3⟩
          case measure => simp [intOf]; omega
    · obtain rfl : k = L.length := by omega
      have hHL : Hid (grp (arcsMTo L h L.length) = adjG (maskL (popI m) h) h) := by unfold Hid adjG; rw [HLn.out]
      clear hc3 HAL HC
      have hmm := @run_makeMap Tryz.prog
      have k1 : wo.cell? ⟨w.heap.size, 1, none⟩ = some (.int .i64 m) := hg3.cell (a := ⟨w.heap.size, 1, none⟩) n1 (fun e => by simp only [Option.some.injEq] at e; omega)
      have hM0 : OwnM1 wo.heap.size (wo.heap.size + 1) (wo.alloc (Obj.map #[] 0)) wo.heap.size 0 (fun _ => none) := OwnM.made rfl (Nat.le_refl _)
      obtain ⟨w5, hrun5, hM5, hu5, hg5⟩ := hM0.run_put Tryz.underlying130 Tryz.underlying2 Tryz.underlying2 m 0 (by omega) (by omega) (by omega)
      have hs5 : wo.heap.size + 1 ≤ w5.heap.size := by have := hu5.size; simpa using this
      have B5 : Below wo.heap.size wo w5 := Below.trans (((Below.refl _ _).al _)) (hu5.below (Nat.le_refl _) (by simp))
      have k1' := keepc B5 k1
      have BW : Below w.heap.size w wo := B3.grown hg3 B3.size (fun g hg => by cases hg; omega)
      have hzw : w.heap.size < wo.heap.size := by omega
      have hzw5 : w.heap.size < w5.heap.size := by omega
      have hMI : OwnMG Tryz.prog 2 2 (fun q => w3.heap.size ≤ q ∧ q < wo.heap.size) w5 (w.heap.size + 1) (arcsMTo L h L.length).length (adjG (maskL (popI m) h) h) := by rw [← hHL.out]; exact (hM.restrict (fun q h1 h2 => ⟨h1, h2⟩) (by omega)).below B5
      have HAG : Hid (∀ x ∈ L, ∀ y ∈ adjG (maskL (popI m) h) h x, y ∈ L) := fun x _ y hy => by
        have h1 := (mem_adjG.1 hy).1
        rw [HLn.out] at h1; exact h1
      have HNL : Hid ((arcsMTo L h L.length).length < 1000000000) := by
        have := arcsMTo_len L h L.length hhb
        unfold Hid; omega
      have HAGL : Hid (∀ x, (adjG (maskL (popI m) h) h x).length ≤ 1000000) := fun x => by
        rw [← hHL.out]
        unfold grp
        rw [List.length_map]
        have h1 := List.length_filter_le (fun a : Int × Int => a.2 == x) (arcsMTo L h L.length)
        have h2 := arcsMTo_len L h L.length hhb
        omega
      have BW5 : Below w.heap.size w w5 := BW.tr B5
      obtain ⟨G, HG⟩ : ∃ G, Hid (adjG (maskL (popI m) h) h = G) := ⟨_, rfl⟩
      rw [HG.out] at hMI HAG HAGL
      clear hM hg3 hHL
      go_wp2
      go_loopg [11] L.length (fun g v wr => ∃ (O : List Int) (f : Int → Option Int) (k : Nat), k + g = L.length ∧ k ≤ O.length ∧ Hid (∀ y ∈ O, y ∈ L) ∧ Hid (Bfs G m O f k []) ∧ OwnTail 1 rowI (wo.heap.size + 1) wr.heap.size wr v (O.drop k) ∧
        OwnM1 wo.heap.size (wo.heap.size + 1) wr wo.heap.size O.length f ∧ Below wo.heap.size w5 wr)
      case atStart => exact ⟨[m], _, 0, by omega, by simp, Lib.hid (fun y hy => (List.mem_singleton.1 hy) ▸ hL0.out), Lib.hid (Bfs.first _ _),
        ⟨w5.heap.size, 0, 1, rfl, by omega, by simp, by simp, by simp, by decide, fun j u hu => by
          rw [Nat.zero_add]
          simp only [List.drop_zero, List.flatMap_cons, List.flatMap_nil, List.append_nil] at hu
          rw [World.cell?_alloc_at _ _ _ _ rfl, ← Array.getElem?_toList]; exact hu, fun j hj => by
          rw [Nat.zero_add, World.cell?_alloc_at _ _ _ _ rfl]
          refine ⟨?_, World.frozen?_alloc_at _ _ _ _ rfl⟩
          rw [Array.getElem?_eq_getElem (by simpa using hj)]; rfl⟩, hM5.al _, (Below.refl _ _).alloc (by omega) _⟩
      case round =>
        obtain ⟨O, f, k, hkg, hkO, hOL, hB, hq, hMf, hb0⟩ := hrel
        have hOlen := hB.out.len hOL.out
        have hs6 := hb0.size
        by_cases hlt : k < O.length
        · have hdrop : O.drop k = O.getD k 0 :: O.drop (k + 1) := by
            rw [List.drop_eq_getElem_cons hlt]; simp [List.getD, hlt]
          have hq0 := hq
          rw [hdrop] at hq
          have hxL := Lib.hid (hOL.out _ (getD_mem hlt))
          have hxb := HBD.out _ hxL.out
          obtain ⟨x, Hx⟩ : ∃ x, Hid (O.getD k 0 = x) := ⟨_, rfl⟩
          rw [Hx.out] at hq hxL hxb
          clear hdrop
          obtain ⟨g0, off, nq, cap, rfl, hn0, hnc, hcm, -, hcell⟩ := hq.head
          have y0 : wr.cell? ⟨g0, off, none⟩ = some (.int .i64 x) := hcell 0 _ rfl
          have hMI' : OwnMG Tryz.prog 2 2 (fun q => w3.heap.size ≤ q ∧ q < wo.heap.size) wr (w.heap.size + 1) (arcsMTo L h L.length).length G := hMI.block (hb0.block _ (by omega)) (fun q hq _ => hb0.block q hq.2)
          have hwf : -9223372036854775808 ≤ x ∧ x ≤ 9223372036854775807 := by omega
          obtain ⟨vi, hruni, hoi, hSi, _⟩ := hMI'.get Tryz.underlying145 Tryz.underlying2 (zeroS _) HNL.out x hwf
          obtain ⟨ai, capi, rfl, hil, hic⟩ := hoi.rd
          clear hcell
          have hic5 : ∀ j, j < (G x).length → ∃ b off, ai = some ⟨b, off, none⟩ ∧ b < wo.heap.size ∧ w5.cell? ⟨b, off + j, none⟩ = some (.int .i64 ((G x).getD j 0)) := fun j hj => by
            obtain ⟨b, o, rfl, hc⟩ := hic j hj
            have hbS := (hSi b rfl).2
            exact ⟨b, o, rfl, hbS, by rw [← hb0.cell (p := ⟨b, o + j, none⟩) hbS]; exact hc⟩
          have HIC := Lib.hid hic5
          have HTX : Hid (∀ j, j < (G x).length → (G x).getD j 0 ∈ L) := fun j hj => HAG.out x hxL.out _ (getD_mem hj)
          have hTl := HAGL.out x
          have HTA : Hid (G (O.getD k 0) = G x) := by unfold Hid; rw [Hx.out]
          have hq0l := hq0.lo
          clear hic hic5 hoi hMI' hSi
          obtain ⟨T, HT⟩ : ∃ T, Hid (G x = T) := ⟨_, rfl⟩
          rw [HT.out] at HTX hTl HTA HIC hil hruni
          go_wp2
          go_loopw [11, 68] (fun v i wr => ∃ (j : Nat) (O : List Int) (f : Int → Option Int), j ≤ T.length ∧ i = .int .i64 j ∧ k < O.length ∧ Hid (O.getD k 0 = x) ∧ Hid (∀ y ∈ O, y ∈ L) ∧ Hid (Bfs G m O f k (T.take j)) ∧
            OwnTail 1 rowI (wo.heap.size + 1) wr.heap.size wr v (O.drop k) ∧ OwnM1 wo.heap.size (wo.heap.size + 1) wr wo.heap.size O.length f ∧ Below wo.heap.size w5 wr) (fun _ i _ => T.length - (intOf i).toNat)
          case atStart => exact ⟨0, O, f, by omega, rfl, hlt, Hx, hOL, by rw [List.take_zero]; exact hB, hq0, hMf, hb0⟩
          case round =>
            clear hq hq0 hMf hB hOL Hx hlt hkO hOlen hcm hnc hn0 y0 hb0 hs6 hq0l hruni
            obtain ⟨j, O, f, hj, rfl, hlt, Hx, hOL, hB, hq, hMf, hb0⟩ := hrel
            have hwj := hq.lo
            have hs6 := hb0.size
            have hdrop : O.drop k = O.getD k 0 :: O.drop (k + 1) := by
              rw [List.drop_eq_getElem_cons hlt]; simp [List.getD, hlt]
            have hqh := hq
            rw [hdrop, Hx.out] at hqh
            clear hdrop
            have hOlen := hB.out.len hOL.out
            by_cases hjlt : j < T.length
            · obtain ⟨b2, o2, rfl, hb2r, hy⟩ := HIC.out j hjlt
              have hy' : wr.cell? ⟨b2, o2 + j, none⟩ = some (.int .i64 (T.getD j 0)) := by rw [hb0.cell (p := ⟨b2, o2 + j, none⟩) hb2r]; exact hy
              have hnx := HTX.out j hjlt
              have hnb := HBD.out _ hnx
              have HK : Hid (T.take (j + 1) = T.take j ++ [T.getD j 0]) := by
                unfold Hid
                rw [take_snoc _ _ hjlt]; simp [List.getD, hjlt]
              have hya : Hid (T.getD j 0 ∈ G (O.getD k 0)) := by
                unfold Hid
                rw [Hx.out, HT.out]
                exact getD_mem hjlt
              obtain ⟨y, Hy⟩ : ∃ y, Hid (T.getD j 0 = y) := ⟨_, rfl⟩
              rw [Hy.out] at hy' hnx hnb HK hya
              have hnxL := Lib.hid hnx
              have hfb := hB.out.bound k hlt
              rw [Hx.out] at hfb
              have hfbx : 0 ≤ (f x).getD 0 ∧ (f x).getD 0 ≤ 1024 := by omega
              clear hy hnx hfb
              cases hseen : (f y).isSome
              · have HS := Lib.hid hseen
                have hll : (O.drop k).length < 1000000000 := by rw [List.length_drop]; omega
                have hat : Hid ((O ++ [y]).drop k = O.drop k ++ [y]) := List.drop_append_of_le_length (by omega)
                obtain ⟨g1, off1, n1, cap1, rfl, hn0, hnc, hcm, -, hcell⟩ := hqh.head
                have y0 : wr.cell? ⟨g1, off1, none⟩ = some (.int .i64 x) := hcell 0 _ rfl
                clear hcell hqh
                go_wp2_with (first
                  | (at_lookup; refine map_getok rfl _ _ _ rfl Tryz.underlying130 Tryz.underlying2 Tryz.underlying2 zeroI wo.heap.size (wo.heap.size + 1) wo.heap.size O.length f y _ rfl rfl (by exact hMf) (by omega) ?_; rw [hseen])
                  | (at_lookup; refine map_get rfl _ _ _ rfl Tryz.underlying130 Tryz.underlying2 Tryz.underlying2 zeroI wo.heap.size (wo.heap.size + 1) wo.heap.size O.length f x _ rfl rfl (by exact hMf) (by omega) ?_)
                  | (at_mapUpdate; refine map_put rfl _ _ _ _ rfl Tryz.underlying130 Tryz.underlying2 Tryz.underlying2 wo.heap.size (wo.heap.size + 1) wo.heap.size O.length f y ((f x).getD 0 + 1) _ rfl rfl rfl (by exact hMf) (by omega) (by omega) (by omega) ?_; intro w7 hM7 hu7
                     have hs7 := hu7.size
                     have hq7 := hq.upd hu7 (fun b hb => Or.inr (hq.lt b hb).1))
                  | (at_builtin; refine push_tail rowI_len rfl _ _ _ _ rfl Tryz.underlying26 (.int .i64 0) 8 infoI rfl (by decide) (by decide) (wo.heap.size + 1) wr.heap.size _ _ y #[.int .i64 y] w7 rfl (rowI_one _) rfl rfl (by exact hq7) hll (by omega) ?_; intro v8 w8 hq8 hg8 hat8 hs8))
                have C7 : Below wo.heap.size w5 w7 := hb0.trans (hu7.below (Nat.le_refl _) (by omega))
                have hM8 := OwnM.upd hM7 (Upd.of_grown (lo := wo.heap.size + 1) (hi := wr.heap.size) hg8 (fun b hb => ⟨(hq.lt b hb).1, (hq.lt b hb).2.2⟩)) (Or.inl (Nat.le_refl _))
                have hBn := hB.out.new hlt HS.out hya.out
                rw [Hx.out] at hBn
                go_roundw
                case rel => exact ⟨j + 1, O ++ [y], fput f y ((f x).getD 0 + 1), by omega, by go_num, by rw [List.length_append]; omega,
                  by unfold Hid; rw [List.getD_eq_getElem?_getD, List.getElem?_append_left hlt, ← List.getD_eq_getElem?_getD]; exact Hx.out,
                  fun z hz => by
                    rcases List.mem_append.1 hz with hz | hz
                    · exact hOL.out z hz
                    · rw [List.mem_singleton.1 hz]; exact hnxL.out,
                  by rw [HK.out]; exact Lib.hid hBn, by rw [hat.out]; exact hq8, by rw [List.length_append]; exact hM8,
                  C7.grown hg8 (by omega) (fun b hb => by have := (hq.lt b hb).1; omega)⟩
                case measure => simp [intOf]; omega
              · have HS := Lib.hid hseen
                clear hqh
                go_wp2_with (at_lookup; refine map_getok rfl _ _ _ rfl Tryz.underlying130 Tryz.underlying2 Tryz.underlying2 zeroI wo.heap.size (wo.heap.size + 1) wo.heap.size O.length f y _ rfl rfl (by exact hMf) (by omega) ?_; rw [hseen])
                go_roundw
                case rel => exact ⟨j + 1, O, f, by omega, by go_num, hlt, Hx, hOL, by rw [HK.out]; exact Lib.hid (hB.out.old hlt HS.out), hq, hMf, hb0⟩
                case measure => simp [intOf]; omega
            · obtain ⟨g1, off1, n1, cap1, rfl, hn0, hnc, hcm, HN, _⟩ := OwnTail.head hqh
              have hBN := Lib.hid (hB.out.next hlt (fun y hy => by
                rw [Hx.out, HT.out] at hy
                rw [List.take_of_length_le (by omega)]
                exact hy))
              by_cases hc1 : cap1 = 1
              · have hqn := hqh.pop (p := some ⟨g1, off1, none⟩) rowI_len (by rw [if_pos hc1])
                subst hc1
                obtain rfl : n1 = 1 := by omega
                clear hqh hq
                go_wp2
                go_roundg (gk - 1)
                case measure => omega
                case rel => exact ⟨O, f, k + 1, by omega, by omega, hOL, hBN, hqn, hMf, hb0⟩
              · have hqn := hqh.pop (p := some ⟨g1, off1 + 1, none⟩) rowI_len (by rw [if_neg hc1])
                clear hqh hq
                go_wp2
                go_roundg (gk - 1)
                case measure => omega
                case rel => exact ⟨O, f, k + 1, by omega, by omega, hOL, hBN, hqn, hMf, hb0⟩
        · obtain rfl : k = O.length := by omega
          have hfin := hB.out.all hlt
          have HF := Lib.hid hfin
          rw [List.drop_length] at hq
          obtain ⟨gq, oq, capq, rfl, _⟩ := hq
          clear hfin
          go_wp2
          go_ret
          exact ⟨_, _, rfl, by rw [HG.out, ← HF.out]; exact OwnM.wide hMf (by omega) (by omega), BW5.trans (hb0.mono (by omega))⟩
end Go.Proofs.YtioemkdapoombaaGreatDoor
end
section
set_option linter.unusedVariables false
namespace Go.Proofs.YtioemkdapoombaaGreatDoor
open Go.ChangeShapes Go.WideShapes Go.ChangeAt Go.RowKit
set_option linter.unusedSimpArgs false
set_option maxHeartbeats 4000000 in
set_option maxRecDepth 100000 in
theorem c_impl_shortest (n h a b : Int) (w : World) (hh : 1 ≤ h ∧ h ≤ 10) (ha : a ∈ maskL n h) (hb : b ∈ maskL n h) :
    Calls Tryz.prog 84 #[.agg #[.int .i64 h, .int .i64 a], .agg #[.int .i64 h, .int .i64 b]] w fun e w' => ∃ v, e = .returned v ∧ OwnI1 w.heap.size w' v (shortL h a b) ∧ Below w.heap.size w w' := by
  obtain ⟨W0, hW0, k0, k1, k2, k3, B0⟩ := twoStates w 25 h a h b
  have f0 : W0.frozen? ⟨w.heap.size, 0, none⟩ = false := by rw [hW0]; go_simp
  have f1 : W0.frozen? ⟨w.heap.size, 1, none⟩ = false := by rw [hW0]; go_simp
  have hs0 : w.heap.size + 2 = W0.heap.size := by rw [hW0]; simp
  have hbm := mem_maskL.1 hb
  have hbq := hbm.1
  have HPB : Hid (popI b = n) := hbm.2
  have hhb : 0 ≤ h ∧ h ≤ 10 := by omega
  have HFR : Hid (∀ y ∈ maskL n h, (dist (adjG (maskL n h) h) b y).getD 0 = farM h y b) := fun y hy => by rw [dist_rev hh hb hy]; rfl
  have HFB := Lib.hid (fun x hx => farM_bd (n := n) (a := x) (b := b) hh hx hb)
  have HBD := Lib.hid (fun x => fun hx => mask_bd (n := n) (h := h) (m := x) hh hx)
  have HC := Lib.hid (fun x t => fun hx hc => next_mem (n := n) (h := h) (m := x) (t := t) hh hx hc)
  have HST := Lib.hid (fun x hx hne => shortL_step (n := n) (a := x) (b := b) hh hx hb hne)
  have HPK := Lib.hid (fun x hx hne => pick_not (n := n) (a := x) (b := b) hh hx hb hne)
  have HAL := Lib.hid ha
  have HFM : Hid ((farM h a b).toNat ≤ 1024) := by
    have := HFB.out a ha
    have := maskL_len n h hh
    unfold Hid
    omega
  clear ha hb hbm
  go_enter Tryz.func84, Tryz.ntmps84
  go_wp2_with fail
  rw [← hW0]
  refine (c_impl_distancesTo h b _ hh hbq).mono ?_; rintro e w1 ⟨bm, nm, rfl, hom, hb1⟩
  rw [HPB.out] at hom
  have g0 := frozenc hb1 k0 f0
  have g1 := frozenc hb1 k1 f1
  have j0 := keepc hb1 k0
  have j1 := keepc hb1 k1
  have j2 := keepc hb1 k2
  have j3 := keepc hb1 k3
  have hs1 := hb1.size
  have B1 : Below w.heap.size w w1 := B0.tr hb1
  have hz1 : w.heap.size + 1 < w1.heap.size := by omega
  have HS0 := Lib.hid hs0
  clear hW0 k0 k1 k2 k3 f0 f1 hb1 B0 hs0
  have hO0 : OwnI1 w1.heap.size (w1.alloc (Obj.cells #[] 2)) (.slice (some ⟨w1.heap.size, 0, none⟩) 0 0) [] := OwnI.made rfl rfl (Nat.le_refl _)
  have C0 := al_c (.cells #[] 2) j0
  have C1 := al_c (.cells #[] 2) j1
  have C2 := al_c (.cells #[] 2) j2
  have C3 := al_c (.cells #[] 2) j3
  have F0 := al_f (.cells #[] 2) j0 g0
  have F1 := al_f (.cells #[] 2) j1 g1
  go_wp2
  go_loopg [6] (farM h a b).toNat (fun g out wr => ∃ (O : List Int) (x : Int), g = (farM h x b).toNat ∧ Hid (O ++ shortL h x b = shortL h a b) ∧ Hid (x ∈ maskL n h) ∧ O.length + g ≤ 1024 ∧ OwnI1 w1.heap.size wr out O ∧
    wr.cell? ⟨w.heap.size, 0, none⟩ = some (.int .i64 h) ∧ wr.cell? ⟨w.heap.size, 1, none⟩ = some (.int .i64 x) ∧ wr.cell? ⟨w.heap.size + 1, 0, none⟩ = some (.int .i64 h) ∧ wr.cell? ⟨w.heap.size + 1, 1, none⟩ = some (.int .i64 b) ∧
    wr.frozen? ⟨w.heap.size, 0, none⟩ = false ∧ wr.frozen? ⟨w.heap.size, 1, none⟩ = false ∧ OwnM1 W0.heap.size w1.heap.size wr bm nm (dist (adjG (maskL n h) h) b) ∧ Below w.heap.size w wr ∧ w1.heap.size ≤ wr.heap.size)
  case atStart => exact ⟨[], a, rfl, rfl, HAL, by have := HFM.out; simpa using this, hO0, C0, C1, C2, C3, F0, F1, hom.al _, B1.al _, by simp⟩
  case round =>
    clear hO0 C0 C1 C2 C3 F0 F1 hom j0 j1 j2 j3 g0 g1
    obtain ⟨O, x, hgk, HO, HX, hOl, hout, C0, C1, C2, C3, F0, F1, hM, hbr, hsr⟩ := hrel
    by_cases hxb : x = b
    · subst hxb
      have hne : (x != x) = false := by simp
      have HE : Hid (O = shortL h a x) := by unfold Hid; rw [← HO.out, shortL_self, List.append_nil]
      go_wp2
      go_ret
      exact ⟨_, rfl, by rw [← HE.out]; exact hout.base (by omega), hbr⟩
    · have hne : (x != b) = true := by simp [hxb]
      have hxq := HBD.out x HX.out
      have hfb := HFB.out x HX.out
      have hTl : (throwsL h x).length ≤ 11 := by have := throwsTo_len h x (h + 1).toNat; unfold throwsL; omega
      have HT := Lib.hid (fun t => fun ht => (mem_throwsL (m := x) (t := t) (show 0 ≤ h by omega)).1 ht)
      obtain ⟨wo, rfl⟩ : ∃ wo : World, wo = wr := ⟨_, rfl⟩
      go_wp2_with (go_at_call 114; refine (c_impl_State_throws h x _ hhb hxq).mono ?_; rintro e w4 ⟨tv, rfl, hot, hb4⟩; have hlt4 := World.ownsRow.lt hot; obtain ⟨att, capt, rfl, hlT, hcT⟩ := hot.rd)
      have G0 := frozenc hb4 C0 F0
      have G1 := frozenc hb4 C1 F1
      have D0 := keepc hb4 C0
      have D1 := keepc hb4 C1
      have D2 := keepc hb4 C2
      have D3 := keepc hb4 C3
      have hs4 := hb4.size
      have hout4 := hout.below hb4
      have hM4 := hM.below hb4
      have hB4 : Below w.heap.size w w4 := hbr.tr hb4
      have hPN := HPK.out x HX.out hxb
      have HPN : Hid (∀ t ∈ throwsL h x, (farM h (nextM x t) b == farM h x b - 1) = false → True) := fun _ _ _ => trivial
      have HSTx := Lib.hid (HST.out x HX.out hxb)
      have HPT := Lib.hid (fun j hj hno hy => pick_at (T := throwsL h x) (p := fun t => farM h (nextM x t) b == farM h x b - 1) (j := j) hj hno hy)
      have HPD : Hid (pickT h b x = ((throwsL h x).find? fun t => farM h (nextM x t) b == farM h x b - 1).getD 0) := rfl
      have HNO := Lib.hid hPN
      clear hPN HPN hb4 hout hM C0 C1 C2 C3 F0 F1 hot
      generalize throwsL h x = T at *
      go_wp2
      go_loopw [6, 21] (fun v i wr => ∃ j : Nat, j ≤ T.length ∧ i = .int .i64 j ∧ OwnI1 w1.heap.size wr v O ∧ Hid (∀ t ∈ T.take j, (farM h (nextM x t) b == farM h x b - 1) = false) ∧ Below w4.heap.size w4 wr) (fun _ i _ => T.length - (intOf i).toNat)
      case atStart => exact ⟨0, by omega, rfl, hout4, fun t ht => by simp at ht, Below.refl _ _⟩
      case round =>
        clear hout4
        obtain ⟨j, hj, rfl, hout5, HNJ, hb5⟩ := hrel
        have hs5 := hb5.size
        by_cases hjlt : j < T.length
        · obtain ⟨b2, o2, rfl, hy⟩ := hcT j hjlt
          have hb2r := hlt4 b2 rfl
          have hy' : wr.cell? ⟨b2, o2 + j, none⟩ = some (.int .i64 (T.getD j 0)) := by rw [hb5.cell (p := ⟨b2, o2 + j, none⟩) hb2r.2]; exact hy
          have E0 := keepc hb5 D0
          have E1 := keepc hb5 D1
          have htm := HT.out _ (getD_mem hjlt)
          have hnx := HC.out x (T.getD j 0) HX.out htm.2
          have hnb := HBD.out _ hnx
          have htb := htm.1
          have hfn := HFB.out _ hnx
          have HF1 := Lib.hid (HFR.out _ hnx)
          have HF0 := Lib.hid (HFR.out _ HX.out)
          have HNX := Lib.hid hnx
          have HPJ := Lib.hid (HPT.out j hjlt HNJ.out)
          have hlen := maskL_len n h hh
          have HTK : Hid (T.take (j + 1) = T.take j ++ [T.getD j 0]) := by
            unfold Hid
            rw [take_snoc _ _ hjlt]; simp [List.getD, hjlt]
          obtain ⟨t, Ht⟩ : ∃ t, Hid (T.getD j 0 = t) := ⟨_, rfl⟩
          rw [Ht.out] at hy' hnb htb hfn HF1 HNX HPJ HTK
          have hM5 := hM4.below hb5
          have HOW := Lib.hid (fun k hk => World.ownsRow.lt hout5 k hk)
          clear hy htm hnx hcT HT
          by_cases hok : farM h (nextM x t) b = farM h x b - 1
          · go_wp2_with (first
              | (go_at_call 74; refine (c_impl_State_next h x t _ hxq (by omega)).mono ?_; rintro e w6 ⟨rfl, hb6⟩; have hM6 := hM5.below hb6; have P0 := keepc hb6 E0; have P1 := keepc hb6 E1; have hs6 := hb6.size; have hz6 : w.heap.size < w6.heap.size := by omega)
              | (at_lookup; refine map_get rfl _ _ _ rfl Tryz.underlying130 Tryz.underlying2 Tryz.underlying2 zeroI W0.heap.size w1.heap.size bm nm (dist (adjG (maskL n h) h) b) (nextM x t) _ rfl rfl (by exact hM6.al _) (by omega) ?_; rw [HF1.out])
              | (at_lookup; refine map_get rfl _ _ _ rfl Tryz.underlying130 Tryz.underlying2 Tryz.underlying2 zeroI W0.heap.size w1.heap.size bm nm (dist (adjG (maskL n h) h) b) x _ rfl rfl (by exact hM6.al _) (by omega) ?_; rw [HF0.out])
              | (at_builtin; refine push_int_at rfl _ _ _ _ rfl Tryz.underlying26 infoI w1.heap.size _ _ _ (w6.alloc (Obj.cells #[Value.int IntKind.i64 h, Value.int IntKind.i64 (nextM x t)] 25)) rfl (by rw [World.size_alloc]; rfl) (by exact (hout5.below hb6).al _) (by omega) (by rw [World.size_alloc]; omega) ?_; intro v7 w7 ho7 hg7 hat7 hs7
                 have R0 := grown_c hg7 (al_c _ P0) (fun e => by have := (HOW.out _ e).1; omega)
                 have R1 := grown_c hg7 (al_c _ P1) (fun e => by have := (HOW.out _ e).1; omega)
                 have S0 := grown_f hg7 (al_c _ P0) (al_f _ P0 (frozenc hb6 E0 (frozenc hb5 D0 G0))) (fun e => by have := (HOW.out _ e).1; omega)
                 have S1 := grown_f hg7 (al_c _ P1) (al_f _ P1 (frozenc hb6 E1 (frozenc hb5 D1 G1))) (fun e => by have := (HOW.out _ e).1; omega)
                 have N0 : w7.cell? ⟨w6.heap.size, 0, none⟩ = some (.int .i64 h) := grown_c hg7 (World.cell?_alloc_at _ _ _ _ rfl) (fun e => by have := (HOW.out _ e).2; omega)
                 have N1 : w7.cell? ⟨w6.heap.size, 1, none⟩ = some (.int .i64 (nextM x t)) := grown_c hg7 (World.cell?_alloc_at _ _ _ _ rfl) (fun e => by have := (HOW.out _ e).2; omega)))
            obtain ⟨X0, X1, XF, hg8⟩ := set2 w7 w.heap.size (.int .i64 h) (.int .i64 (nextM x t)) _ _ R0 R1
            have Y2 := grown_c hg8 (grown_c hg7 (al_c _ (keepc hb6 (keepc hb5 D2))) (fun e => by have := (HOW.out _ e).1; omega)) (fun e => by simp at e)
            have Y3 := grown_c hg8 (grown_c hg7 (al_c _ (keepc hb6 (keepc hb5 D3))) (fun e => by have := (HOW.out _ e).1; omega)) (fun e => by simp at e)
            have hs7' := hg7.size
            rw [World.size_alloc] at hs7'
            have hs8 := hg8.size
            have hM7 := OwnM.upd (hM6.al _) (Upd.of_grown (lo := w1.heap.size) (hi := wr.heap.size) hg7 (fun q hq => HOW.out q hq)) (Or.inl (Nat.le_refl _))
            have hs0 := HS0.out
            have hM8 := OwnM.upd hM7 (Upd.of_grown (lo := w.heap.size) (hi := w.heap.size + 1) hg8 (fun q hq => by cases hq; omega)) (Or.inr (by omega))
            have B7 : Below w.heap.size w w7 := (((hB4.tr hb5).tr hb6).al _).grown hg7 (by rw [World.size_alloc]; omega) (fun q hq => by have := (HOW.out q hq).1; omega)
            have B8 := B7.grown hg8 (by omega) (fun q hq => by cases hq; omega)
            have hpt : pickT h b x = t := by rw [HPD.out, HPJ.out (by simp [hok])]; rfl
            have HO8 : Hid ((O ++ [t]) ++ shortL h (nextM x t) b = shortL h a b) := by
              unfold Hid
              have h1 := HSTx.out
              rw [hpt] at h1
              rw [List.append_assoc, ← HO.out, h1]; rfl
            have ho8 := (ho7.setBelow (p := ⟨w.heap.size, 0, none⟩) (show w.heap.size < w1.heap.size by omega) (.int .i64 h)).setBelow (p := ⟨w.heap.size, 1, none⟩) (show w.heap.size < w1.heap.size by omega) (.int .i64 (nextM x t))
            go_roundg (gk - 1)
            case measure => omega
            case rel => exact ⟨O ++ [t], nextM x t, by omega, HO8, HNX, by rw [List.length_append]; simp only [List.length_singleton]; omega, ho8, X0, X1, Y2, Y3, by rw [XF]; exact S0, by rw [XF]; exact S1, hM8, B8, by omega⟩
          · have hok2 : (farM h (nextM x t) b == farM h x b - 1) = false := by simp [hok]
            go_wp2_with (first
              | (go_at_call 74; refine (c_impl_State_next h x t _ hxq (by omega)).mono ?_; rintro e w6 ⟨rfl, hb6⟩; have hM6 := hM5.below hb6; have P0 := keepc hb6 E0; have P1 := keepc hb6 E1; have hs6 := hb6.size; have hz6 : w.heap.size < w6.heap.size := by omega)
              | (at_lookup; refine map_get rfl _ _ _ rfl Tryz.underlying130 Tryz.underlying2 Tryz.underlying2 zeroI W0.heap.size w1.heap.size bm nm (dist (adjG (maskL n h) h) b) (nextM x t) _ rfl rfl (by exact hM6.al _) (by omega) ?_; rw [HF1.out])
              | (at_lookup; refine map_get rfl _ _ _ rfl Tryz.underlying130 Tryz.underlying2 Tryz.underlying2 zeroI W0.heap.size w1.heap.size bm nm (dist (adjG (maskL n h) h) b) x _ rfl rfl (by exact hM6.al _) (by omega) ?_; rw [HF0.out]))
            go_roundw
            case rel => exact ⟨j + 1, by omega, by go_num, (hout5.below hb6).al _, by
              rw [HTK.out]
              intro s hs
              rcases List.mem_append.1 hs with hs | hs
              · exact HNJ.out s hs
              · rw [List.mem_singleton.1 hs]; exact hok2, (hb5.tr hb6).al _⟩
            case measure => simp [intOf]; omega
        · exact (HNO.out (by rw [List.take_of_length_le (by omega)] at HNJ; exact HNJ.out)).elim
end Go.Proofs.YtioemkdapoombaaGreatDoor
end
