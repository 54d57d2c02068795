/- FarI, FarT, Short: laid one behind the other. -/
import Derived.Test.YtddfdppoclnpcaaDoorArcs
import Derived.Test.YtddfdppoclnpcaaDoorMemR
import Derived.Test.YtddfdppoclnpcaaDoorPlainG
import Derived.Deep.LoopGhost
import Derived.Test.YtddfdppoclnpcaaDoorKeep
section
set_option linter.unusedVariables false
namespace Go.Proofs.YtddfdppoclnpcaaDoor
open Go.ChangeShapes Go.WideShapes Go.ChangeAt Go.RowKit
set_option maxHeartbeats 4000000 in
set_option maxRecDepth 100000 in
theorem c_impl_distancesFrom (h m : Int) (w : World) (hh : 1 ≤ h ∧ h ≤ 10) (hm : 0 ≤ m ∧ m < 2 ^ h.toNat) :
    Calls Tryd.prog 92 #[.agg #[.int .i64 h, .int .i64 m]] w fun e w' => ∃ b, e = .returned (.map (some b)) ∧ OwnM1 w.heap.size w'.heap.size w' b (maskL (popI m) h).length (dist (adjM h) m) ∧ Below w.heap.size w w' := by
  have hmm := @run_makeMap Tryd.prog
  have hmb : 0 ≤ m ∧ m < 1024 := by have := pow_le_1024 h.toNat (by omega); omega
  have hM0 : OwnM1 (w.heap.size + 1) (w.heap.size + 2) ((w.alloc (Obj.cells #[Value.int IntKind.i64 h, Value.int IntKind.i64 m] 114)).alloc (Obj.map #[] 0)) (w.heap.size + 1) 0 (fun _ => none) :=
    (OwnM.made (w := w.alloc (Obj.cells #[Value.int IntKind.i64 h, Value.int IntKind.i64 m] 114)) (by simp) (by simp)).wide (Nat.le_refl _) (by simp)
  obtain ⟨w1, hrun1, hM1, hu1, _⟩ := hM0.run_put Tryd.underlying116 Tryd.underlying2 Tryd.underlying2 m 0 (by omega) (by omega) (by omega)
  have hs1 : w.heap.size + 2 ≤ w1.heap.size := by have := hu1.size; simpa using this
  have k0 : w1.cell? ⟨w.heap.size, 0, none⟩ = some (.int .i64 h) := by rw [hu1.cell _ _ (Or.inl (by omega)) (by simp; omega)]; go_simp
  have k1 : w1.cell? ⟨w.heap.size, 1, none⟩ = some (.int .i64 m) := by rw [hu1.cell _ _ (Or.inl (by omega)) (by simp; omega)]; go_simp
  have B1 : Below w.heap.size w w1 := Below.trans (by (repeat (first | (with_reducible assumption) | (with_reducible exact Below.refl _ _) | (with_reducible refine Below.setCell ?_ (by first | (simp; done) | (simp; omega)) _) | (with_reducible refine Below.al ?_ _) | (with_reducible refine Below.dr ?_) | (with_reducible refine Below.drN ?_ _) | (with_reducible refine Below.tr ?_ (by with_reducible assumption))))) (hu1.below (Nat.le_succ _) (by simp; omega))
  clear hM0 hu1
  go_enter Tryd.func92, Tryd.ntmps92
  go_wp2
  clear hrun1
  have HC := Lib.hid (fun x t => fun hx hc => next_mem (n := popI m) (h := h) (m := x) (t := t) hh hx hc)
  have hL0 : m ∈ maskL (popI m) h := mem_maskL.2 ⟨hm, rfl⟩
  have hLl := maskL_len (popI m) h hh
  have HBD := Lib.hid (fun x => fun hx => mask_bd (n := popI m) (h := h) (m := x) hh hx)
  generalize hLn : maskL (popI m) h = L at *
  have HLn := Lib.hid hLn
  clear hLn
  go_loopg [4] L.length (fun g v wr => ∃ (O : List Int) (f : Int → Option Int) (k : Nat), k + g = L.length ∧ k ≤ O.length ∧ Hid (∀ y ∈ O, y ∈ L) ∧ Hid (Bfs (adjM h) m O f k []) ∧ OwnTail 2 (rowS h) (w.heap.size + 2) wr.heap.size wr v (O.drop k) ∧
      OwnM1 (w.heap.size + 1) (w.heap.size + 2) wr (w.heap.size + 1) O.length f ∧ Below w.heap.size w wr)
  case atStart => exact ⟨[m], _, 0, by omega, by simp, Lib.hid (fun y hy => (List.mem_singleton.1 hy) ▸ hL0), Lib.hid (Bfs.first _ _),
    ⟨w1.heap.size, 0, 1, rfl, by omega, by simp, by simp, by simp, by decide, fun j u hu => by
      rw [Nat.zero_add]
      simp only [List.drop_zero, List.flatMap_cons, List.flatMap_nil, List.append_nil] at hu
      rw [World.cell?_alloc_at _ _ _ _ rfl, ← Array.getElem?_toList]; exact hu, fun j hj => by
      rw [Nat.zero_add, World.cell?_alloc_at _ _ _ _ rfl]
      refine ⟨?_, World.frozen?_alloc_at _ _ _ _ rfl⟩
      rw [Array.getElem?_eq_getElem (by simpa using hj)]; rfl⟩, hM1.al _, by (repeat (first | (with_reducible assumption) | (with_reducible exact Below.refl _ _) | (with_reducible refine Below.setCell ?_ (by first | (simp; done) | (simp; omega)) _) | (with_reducible refine Below.al ?_ _) | (with_reducible refine Below.dr ?_) | (with_reducible refine Below.drN ?_ _) | (with_reducible refine Below.tr ?_ (by with_reducible assumption))))⟩
  case round =>
    obtain ⟨O, f, k, hkg, hkO, hOL, hB, hq, hM, hb0⟩ := hrel
    have hOlen := hB.out.len hOL.out
    have hs0 := hb0.size
    have hw2 := hM.lt
    by_cases hlt : k < O.length
    · have hdrop : O.drop k = O.getD k 0 :: O.drop (k + 1) := by
        rw [List.drop_eq_getElem_cons hlt]; simp [List.getD, hlt]
      have hq0 := hq
      rw [hdrop] at hq
      have hxL := Lib.hid (hOL.out _ (getD_mem' hlt))
      have hxb := HBD.out _ hxL.out
      obtain ⟨x, Hx⟩ : ∃ x, Hid (O.getD k 0 = x) := ⟨_, rfl⟩
      rw [Hx.out] at hq hxL hxb
      have HD := Lib.hid hdrop
      clear hdrop
      have hqlt := hq.lt
      have hwo : w.heap.size + 2 ≤ wr.heap.size := Nat.le_of_lt hq.lo
      obtain ⟨g0, off, n, cap, rfl, hn0, hnc, hcm, HN, hcell⟩ := hq.head
      have y0 : wr.cell? ⟨g0, off, none⟩ = some (.int .i64 h) := hcell 0 _ rfl
      have y1 : wr.cell? ⟨g0, off + 1, none⟩ = some (.int .i64 x) := hcell 1 _ rfl
      obtain ⟨wo, rfl⟩ : ∃ wo : World, wo = wr := ⟨_, rfl⟩
      clear hcell
      go_wp2_with (go_at_call 109; refine (c_impl_State_throws h x _ (by omega) hxb).mono ?_; rintro e w3 ⟨tv, rfl, hot, hb3⟩; have hlt3 := World.ownsRow.lt hot; obtain ⟨att, capt, rfl, hlT, hcT⟩ := hot.rd)
      have hz3 : wo.heap.size < w3.heap.size := Nat.lt_of_lt_of_le (by simp) hb3.size
      have q0 : w3.cell? ⟨wo.heap.size, 0, none⟩ = some (.int .i64 h) := by obtain ⟨hc3, _⟩ := bcell hb3; go_simp
      have q1 : w3.cell? ⟨wo.heap.size, 1, none⟩ = some (.int .i64 x) := by obtain ⟨hc3, _⟩ := bcell hb3; go_simp
      have hT : ∀ t ∈ throwsL h x, (0 ≤ t ∧ t ≤ h) ∧ canB h x t = true := fun t ht => (mem_throwsL (by omega)).1 ht
      have HT := Lib.hid hT
      have hTl : (throwsL h x).length ≤ 11 := by have := throwsTo_len h x (h + 1).toNat; unfold throwsL; omega
      have hlo : wo.heap.size ≤ (wo.alloc (Obj.cells #[Value.int IntKind.i64 h, Value.int IntKind.i64 x] 114)).heap.size := by simp
      have B3' : Below wo.heap.size wo w3 := by (repeat (first | (with_reducible assumption) | (with_reducible exact Below.refl _ _) | (with_reducible refine Below.setCell ?_ (by first | (simp; done) | (simp; omega)) _) | (with_reducible refine Below.al ?_ _) | (with_reducible refine Below.dr ?_) | (with_reducible refine Below.drN ?_ _) | (with_reducible refine Below.tr ?_ (by with_reducible assumption))))
      have hq3 := hq0.below B3'
      have hM3 := OwnM.below hM B3'
      have B3 : Below w.heap.size w w3 := by (repeat (first | (with_reducible assumption) | (with_reducible exact Below.refl _ _) | (with_reducible refine Below.setCell ?_ (by first | (simp; done) | (simp; omega)) _) | (with_reducible refine Below.al ?_ _) | (with_reducible refine Below.dr ?_) | (with_reducible refine Below.drN ?_ _) | (with_reducible refine Below.tr ?_ (by with_reducible assumption))))
      have HA : Hid (adjM h x = (throwsL h x).map (nextM x)) := rfl
      clear hT hot hb3 hq0 hq
      generalize throwsL h x = T at *
      have hoff0 : ∀ b, (Value.slice (some { block := g0, off := off }) n cap).ownBlock = some b → b < wo.heap.size ∨ w3.heap.size ≤ b := fun b hb => Or.inl (hqlt b hb).2.2
      go_wp2
      go_loopw [4, 28] (fun v i wr => ∃ (j : Nat) (O : List Int) (f : Int → Option Int), j ≤ T.length ∧ i = .int .i64 j ∧ k < O.length ∧ Hid (O.getD k 0 = x) ∧ Hid (∀ y ∈ O, y ∈ L) ∧ Hid (Bfs (adjM h) m O f k ((adjM h x).take j)) ∧
        OwnTail 2 (rowS h) (w.heap.size + 2) wr.heap.size wr v (O.drop k) ∧ OwnM1 (w.heap.size + 1) (w.heap.size + 2) wr (w.heap.size + 1) O.length f ∧ Below w.heap.size w wr ∧
        Same wo.heap.size w3.heap.size w3 wr ∧ Hid (∀ b, v.ownBlock = some b → b < wo.heap.size ∨ w3.heap.size ≤ b)) (fun _ i _ => T.length - (intOf i).toNat)
      case atStart => exact ⟨0, O, f, by omega, rfl, hlt, Hx, hOL, by rw [List.take_zero]; exact hB, hq3.tight, hM3, B3, Same.refl (Nat.le_refl _), hoff0⟩
      case round =>
        clear hq3 hM3 hM hB hOL Hx hlt hkO hOlen hcm HN hnc hn0 y0 y1 hqlt hoff0
        obtain ⟨j, O, f, hj, rfl, hlt, Hx, hOL, hB, hq, hM, hbj, hsm, hoff⟩ := hrel
        have hsm1 := hsm.1
        have hwj := hq.lo
        have hzr : wo.heap.size < wr.heap.size := Nat.lt_of_lt_of_le hz3 hsm1
        by_cases hjlt : j < T.length
        · obtain ⟨b2, o2, rfl, hy⟩ := hcT j hjlt
          have hb2r := hlt3 b2 rfl
          have hy' : wr.cell? ⟨b2, o2 + j, none⟩ = some (.int .i64 (T.getD j 0)) := by rw [hsm.cell (by omega) hb2r.2]; exact hy
          have p0 : wr.cell? ⟨wo.heap.size, 0, none⟩ = some (.int .i64 h) := by rw [hsm.cell (Nat.le_refl _) hz3]; exact q0
          have p1 : wr.cell? ⟨wo.heap.size, 1, none⟩ = some (.int .i64 x) := by rw [hsm.cell (Nat.le_refl _) hz3]; exact q1
          have htm := HT.out _ (getD_mem hjlt)
          have hnx := HC.out x (T.getD j 0) hxL.out htm.2
          have hnb := HBD.out _ hnx
          have HK : Hid ((adjM h x).take (j + 1) = (adjM h x).take j ++ [nextM x (T.getD j 0)]) := by
            unfold Hid
            rw [HA.out, take_snoc _ _ (by rw [List.length_map]; exact hjlt)]
            simp [List.getD, hjlt]
          have hya : Hid (nextM x (T.getD j 0) ∈ adjM h (O.getD k 0)) := by
            unfold Hid
            rw [Hx.out, HA.out]
            exact List.mem_map_of_mem (getD_mem hjlt)
          have htb := htm.1
          obtain ⟨t, Ht⟩ : ∃ t, Hid (T.getD j 0 = t) := ⟨_, rfl⟩
          rw [Ht.out] at hy' hnx hnb HK htb hya
          have hnxL := Lib.hid hnx
          have hOlen := hB.out.len hOL.out
          have hfb := hB.out.bound k hlt
          rw [Hx.out] at hfb
          have hfbx : 0 ≤ (f x).getD 0 ∧ (f x).getD 0 ≤ 1024 := by omega
          clear hy htm hnx hcT hfb hxL HT
          cases hseen : (f (nextM x t)).isSome
          · have HS := Lib.hid hseen
            have hll : (O.drop k).length < 1000000000 := by rw [List.length_drop]; omega
            have hat : Hid ((O ++ [nextM x t]).drop k = O.drop k ++ [nextM x t]) := List.drop_append_of_le_length (by omega)
            go_wp2_with (first
              | (go_at_call 110; refine (c_impl_State_next h x t _ hxb (by omega)).mono ?_; rintro e w4 ⟨rfl, hb4⟩; have p0' := (hb4.cell (p := ⟨wo.heap.size, 0, none⟩) hzr).trans p0; have p1' := (hb4.cell (p := ⟨wo.heap.size, 1, none⟩) hzr).trans p1; have hs4 := hb4.size; have hzr4 : wo.heap.size < w4.heap.size := Nat.lt_of_lt_of_le hzr hs4)
              | (at_lookup; refine map_getok rfl _ _ _ rfl Tryd.underlying116 Tryd.underlying2 Tryd.underlying2 zeroI (w.heap.size + 1) (w.heap.size + 2) (w.heap.size + 1) O.length f (nextM x t) _ rfl rfl (by exact (OwnM.below hM hb4).al _) (by omega) ?_; rw [hseen])
              | (at_lookup; refine map_get rfl _ _ _ rfl Tryd.underlying116 Tryd.underlying2 Tryd.underlying2 zeroI (w.heap.size + 1) (w.heap.size + 2) (w.heap.size + 1) O.length f x _ rfl rfl (by exact (OwnM.below hM hb4).al _) (by omega) ?_)
              | (at_mapUpdate; refine map_put rfl _ _ _ _ rfl Tryd.underlying116 Tryd.underlying2 Tryd.underlying2 (w.heap.size + 1) (w.heap.size + 2) (w.heap.size + 1) O.length f (nextM x t) ((f x).getD 0 + 1) _ rfl rfl rfl (by exact (OwnM.below hM hb4).al _) (by omega) (by omega) (by omega) ?_; intro w5 hM5 hu5
                 have hs5 := hu5.size
                 rw [World.size_alloc] at hs5
                 have z0 : w5.cell? ⟨w4.heap.size, 0, none⟩ = some (.int .i64 h) := (hu5.cell w4.heap.size 0 (Or.inr (by omega)) (by rw [World.size_alloc]; omega)).trans (World.cell?_alloc_at _ _ _ _ rfl)
                 have z1 : w5.cell? ⟨w4.heap.size, 1, none⟩ = some (.int .i64 (nextM x t)) := (hu5.cell w4.heap.size 1 (Or.inr (by omega)) (by rw [World.size_alloc]; omega)).trans (World.cell?_alloc_at _ _ _ _ rfl)
                 have hq5 : OwnTail 2 (rowS h) (w.heap.size + 2) wr.heap.size w5 u4 (O.drop k) := ((hq.below hb4).al _).upd hu5 (fun b hb => Or.inr (hq.lt b hb).1))
              | (at_builtin; refine push_tail (rowS_len h) rfl _ _ _ _ rfl Tryd.underlying104 (.agg #[.int .i64 0, .int .i64 0]) 16 infoS rfl (by decide) (by decide) (w.heap.size + 2) wr.heap.size _ _ (nextM x t) #[.int .i64 h, .int .i64 (nextM x t)] w5 rfl (rowS_one h _) rfl rfl (by exact hq5) hll (by omega) ?_; intro v6 w6 hq6 hg6 hat6 hs6))
            have C5 : Below w.heap.size w w5 := Below.trans (b := w4.alloc (Obj.cells #[Value.int IntKind.i64 h, Value.int IntKind.i64 (nextM x t)] 114)) (by (repeat (first | (with_reducible assumption) | (with_reducible exact Below.refl _ _) | (with_reducible refine Below.setCell ?_ (by first | (simp; done) | (simp; omega)) _) | (with_reducible refine Below.al ?_ _) | (with_reducible refine Below.dr ?_) | (with_reducible refine Below.drN ?_ _) | (with_reducible refine Below.tr ?_ (by with_reducible assumption))))) (hu5.below (by omega) (by rw [World.size_alloc]; omega))
            have S5 : Same wo.heap.size w3.heap.size w3 w5 := (hsm.below (Below.al hb4 _)).upd hu5 (Or.inl hwo)
            have hM6 := OwnM.upd hM5 (Upd.of_grown (lo := w.heap.size + 2) (hi := wr.heap.size) hg6 (fun b hb => ⟨(hq.lt b hb).1, (hq.lt b hb).2.2⟩)) (Or.inl (Nat.le_refl _))
            have hBn := hB.out.new hlt HS.out hya.out
            rw [Hx.out] at hBn
            go_roundw
            case rel => exact ⟨j + 1, O ++ [nextM x t], fput f (nextM x t) ((f x).getD 0 + 1), by omega, by go_num, by rw [List.length_append]; omega,
              by unfold Hid; rw [List.getD_eq_getElem?_getD, List.getElem?_append_left hlt, ← List.getD_eq_getElem?_getD]; exact Hx.out,
              fun y hy => by
                rcases List.mem_append.1 hy with hy | hy
                · exact hOL.out y hy
                · rw [List.mem_singleton.1 hy]; exact hnxL.out,
              by rw [HK.out]; exact Lib.hid hBn, by rw [hat.out]; exact hq6, by rw [List.length_append]; exact hM6,
              C5.grown hg6 (by omega) (fun b hb => by have := (hq.lt b hb).1; omega), S5.grown hg6 hoff.out, fun b hb => by
                rcases hat6 with he | he
                · exact hoff.out b (he.symm.trans hb)
                · rw [he] at hb; simp only [Option.some.injEq] at hb; right; omega⟩
            case measure => simp [intOf]; omega
          · have HS := Lib.hid hseen
            go_wp2_with (first
              | (go_at_call 110; refine (c_impl_State_next h x t _ hxb (by omega)).mono ?_; rintro e w4 ⟨rfl, hb4⟩)
              | (at_lookup; refine map_getok rfl _ _ _ rfl Tryd.underlying116 Tryd.underlying2 Tryd.underlying2 zeroI (w.heap.size + 1) (w.heap.size + 2) (w.heap.size + 1) O.length f (nextM x t) _ rfl rfl (by exact (OwnM.below hM hb4).al _) (by omega) ?_; rw [hseen]))
            have hs4 := hb4.size
            go_roundw
            case rel => exact ⟨j + 1, O, f, by omega, by go_num, hlt, Hx, hOL, by rw [HK.out]; exact Lib.hid (hB.out.old hlt HS.out), ((hq.below hb4).al _).tight, (OwnM.below hM hb4).al _, by (repeat (first | (with_reducible assumption) | (with_reducible exact Below.refl _ _) | (with_reducible refine Below.setCell ?_ (by first | (simp; done) | (simp; omega)) _) | (with_reducible refine Below.al ?_ _) | (with_reducible refine Below.dr ?_) | (with_reducible refine Below.drN ?_ _) | (with_reducible refine Below.tr ?_ (by with_reducible assumption)))), hsm.below (Below.al hb4 _), hoff⟩
            case measure => simp [intOf]; omega
        · have hdrop : O.drop k = O.getD k 0 :: O.drop (k + 1) := by
            rw [List.drop_eq_getElem_cons hlt]; simp [List.getD, hlt]
          rw [hdrop] at hq
          clear hdrop
          obtain ⟨g1, off1, n1, cap1, rfl, hn0, hnc, hcm, HN, _⟩ := OwnTail.head hq
          have hBN := Lib.hid (hB.out.next hlt (fun y hy => by
            rw [Hx.out] at hy
            rw [List.take_of_length_le (by rw [HA.out, List.length_map]; omega)]
            exact hy))
          have hOlen := hB.out.len hOL.out
          by_cases hc1 : cap1 = 1
          · have hqn := hq.pop (p := some ⟨g1, off1, none⟩) (rowS_len h) (by rw [if_pos hc1])
            subst hc1
            obtain rfl : n1 = 1 := by omega
            clear hq
            go_wp2
            go_roundg (gk - 1)
            case measure => omega
            case rel => exact ⟨O, f, k + 1, by omega, by omega, hOL, hBN, hqn, hM, hbj⟩
          · have hqn := hq.pop (p := some ⟨g1, off1 + 2, none⟩) (rowS_len h) (by rw [if_neg hc1])
            clear hq
            go_wp2
            go_roundg (gk - 1)
            case measure => omega
            case rel => exact ⟨O, f, k + 1, by omega, by omega, hOL, hBN, hqn, hM, hbj⟩
    · obtain rfl : k = O.length := by omega
      have hfin := hB.out.all hlt
      have HF := Lib.hid hfin
      rw [List.drop_length] at hq
      obtain ⟨gq, oq, capq, rfl, _⟩ := hq
      clear hfin
      go_wp2
      go_ret
      exact ⟨_, rfl, by rw [← HF.out]; exact (OwnM.wide hM (by omega) (by omega)).more (by rw [HLn.out]; exact hOlen), hb0⟩
end Go.Proofs.YtddfdppoclnpcaaDoor
end
section
set_option linter.unusedVariables false
namespace Go.Proofs.YtddfdppoclnpcaaDoor
open Go.ChangeShapes Go.WideShapes Go.ChangeAt Go.RowKit
set_option linter.unusedSimpArgs false
theorem zeroS (w : World) : (zeroValue 49).run Tryd.prog w = .ok (.slice none 0 0) w := by kernel_rfl
end Go.Proofs.YtddfdppoclnpcaaDoor
end
section
set_option linter.unusedVariables false
namespace Go.Proofs.YtddfdppoclnpcaaDoor
open Go.ChangeShapes Go.WideShapes Go.ChangeAt Go.RowKit
set_option linter.unusedSimpArgs false
end Go.Proofs.YtddfdppoclnpcaaDoor
end
