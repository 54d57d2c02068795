/- Contract of impl.shortest. -/
import Derived.Test.YtddfdppoclnpcaaFarT
import Derived.Test.YtddfdppoclnpcaaKeep
import Derived.Test.YtddfdppoclnpcaaPlainG
namespace Go.Proofs.Ytddfdppoclnpcaa
open Go.ChangeShapes Go.WideShapes Go.ChangeAt Go.RowKit
set_option linter.unusedVariables false
set_option linter.unusedSimpArgs false
set_option maxHeartbeats 4000000 in
set_option maxRecDepth 100000 in
theorem c_impl_shortest (n h a b : Int) (w : World) (hh : 1 ≤ h ∧ h ≤ 10) (ha : a ∈ maskL n h) (hb : b ∈ maskL n h) :
    Calls Try.prog 99 #[.agg #[.int .i64 h, .int .i64 a], .agg #[.int .i64 h, .int .i64 b]] w fun e w' => ∃ v, e = .returned v ∧ OwnI1 w.heap.size w' v (shortL h a b) ∧ Below w.heap.size w w' := by
  obtain ⟨W0, hW0, k0, k1, k2, k3, B0⟩ := twoStates w 28 h a h b
  have f0 : W0.frozen? ⟨w.heap.size, 0, none⟩ = false := by rw [hW0]; go_simp
  have f1 : W0.frozen? ⟨w.heap.size, 1, none⟩ = false := by rw [hW0]; go_simp
  have hs0 : w.heap.size + 2 = W0.heap.size := by rw [hW0]; simp
  have hbm := mem_maskL.1 hb
  have hbq := hbm.1
  have HPB : Hid (popI b = n) := hbm.2
  have hhb : 0 ≤ h ∧ h ≤ 10 := by omega
  have HFR : Hid (∀ y ∈ maskL n h, (dist (adjG (maskL n h) h) b y).getD 0 = farM h y b) := fun y hy => by rw [dist_rev hh hb hy]; rfl
  have HFB := Lib.hid (fun x hx => farM_bd (n := n) (a := x) (b := b) hh hx hb)
  have HBD := Lib.hid (fun x => fun hx => mask_bd (n := n) (h := h) (m := x) hh hx)
  have HC := Lib.hid (fun x t => fun hx hc => next_mem (n := n) (h := h) (m := x) (t := t) hh hx hc)
  have HST := Lib.hid (fun x hx hne => shortL_step (n := n) (a := x) (b := b) hh hx hb hne)
  have HPK := Lib.hid (fun x hx hne => pick_not (n := n) (a := x) (b := b) hh hx hb hne)
  have HAL := Lib.hid ha
  have HFM : Hid ((farM h a b).toNat ≤ 1024) := by
    have := HFB.out a ha
    have := maskL_len n h hh
    unfold Hid
    omega
  clear ha hb hbm
  go_enter Try.func99, Try.ntmps99
  go_wp2_with fail
  rw [← hW0]
  refine (c_impl_distancesTo h b _ hh hbq).mono ?_; rintro e w1 ⟨bm, nm, rfl, hom, hb1⟩
  rw [HPB.out] at hom
  have g0 := frozenc hb1 k0 f0
  have g1 := frozenc hb1 k1 f1
  have j0 := keepc hb1 k0
  have j1 := keepc hb1 k1
  have j2 := keepc hb1 k2
  have j3 := keepc hb1 k3
  have hs1 := hb1.size
  have B1 : Below w.heap.size w w1 := B0.tr hb1
  have hz1 : w.heap.size + 1 < w1.heap.size := by omega
  have HS0 := Lib.hid hs0
  clear hW0 k0 k1 k2 k3 f0 f1 hb1 B0 hs0
  have hO0 : OwnI1 w1.heap.size (w1.alloc (Obj.cells #[] 2)) (.slice (some ⟨w1.heap.size, 0, none⟩) 0 0) [] := OwnI.made rfl rfl (Nat.le_refl _)
  have C0 := al_c (.cells #[] 2) j0
  have C1 := al_c (.cells #[] 2) j1
  have C2 := al_c (.cells #[] 2) j2
  have C3 := al_c (.cells #[] 2) j3
  have F0 := al_f (.cells #[] 2) j0 g0
  have F1 := al_f (.cells #[] 2) j1 g1
  go_wp2
  go_loopg [6] (farM h a b).toNat (fun g out wr => ∃ (O : List Int) (x : Int), g = (farM h x b).toNat ∧ Hid (O ++ shortL h x b = shortL h a b) ∧ Hid (x ∈ maskL n h) ∧ O.length + g ≤ 1024 ∧ OwnI1 w1.heap.size wr out O ∧
    wr.cell? ⟨w.heap.size, 0, none⟩ = some (.int .i64 h) ∧ wr.cell? ⟨w.heap.size, 1, none⟩ = some (.int .i64 x) ∧ wr.cell? ⟨w.heap.size + 1, 0, none⟩ = some (.int .i64 h) ∧ wr.cell? ⟨w.heap.size + 1, 1, none⟩ = some (.int .i64 b) ∧
    wr.frozen? ⟨w.heap.size, 0, none⟩ = false ∧ wr.frozen? ⟨w.heap.size, 1, none⟩ = false ∧ OwnM1 W0.heap.size w1.heap.size wr bm nm (dist (adjG (maskL n h) h) b) ∧ Below w.heap.size w wr ∧ w1.heap.size ≤ wr.heap.size)
  case atStart => exact ⟨[], a, rfl, rfl, HAL, by have := HFM.out; simpa using this, hO0, C0, C1, C2, C3, F0, F1, hom.al _, B1.al _, by simp⟩
  case round =>
    clear hO0 C0 C1 C2 C3 F0 F1 hom j0 j1 j2 j3 g0 g1
    obtain ⟨O, x, hgk, HO, HX, hOl, hout, C0, C1, C2, C3, F0, F1, hM, hbr, hsr⟩ := hrel
    by_cases hxb : x = b
    · subst hxb
      have hne : (x != x) = false := by simp
      have HE : Hid (O = shortL h a x) := by unfold Hid; rw [← HO.out, shortL_self, List.append_nil]
      go_wp2
      go_ret
      exact ⟨_, rfl, by rw [← HE.out]; exact hout.base (by omega), hbr⟩
    · have hne : (x != b) = true := by simp [hxb]
      have hxq := HBD.out x HX.out
      have hfb := HFB.out x HX.out
      have hTl : (throwsL h x).length ≤ 11 := by have := throwsTo_len h x (h + 1).toNat; unfold throwsL; omega
      have HT := Lib.hid (fun t => fun ht => (mem_throwsL (m := x) (t := t) (show 0 ≤ h by omega)).1 ht)
      obtain ⟨wo, rfl⟩ : ∃ wo : World, wo = wr := ⟨_, rfl⟩
      go_wp2_with (go_at_call 133; refine (c_impl_State_throws h x _ hhb hxq).mono ?_; rintro e w4 ⟨tv, rfl, hot, hb4⟩; have hlt4 := World.ownsRow.lt hot; obtain ⟨att, capt, rfl, hlT, hcT⟩ := hot.rd)
      have G0 := frozenc hb4 C0 F0
      have G1 := frozenc hb4 C1 F1
      have D0 := keepc hb4 C0
      have D1 := keepc hb4 C1
      have D2 := keepc hb4 C2
      have D3 := keepc hb4 C3
      have hs4 := hb4.size
      have hout4 := hout.below hb4
      have hM4 := hM.below hb4
      have hB4 : Below w.heap.size w w4 := hbr.tr hb4
      have hPN := HPK.out x HX.out hxb
      have HPN : Hid (∀ t ∈ throwsL h x, (farM h (nextM x t) b == farM h x b - 1) = false → True) := fun _ _ _ => trivial
      have HSTx := Lib.hid (HST.out x HX.out hxb)
      have HPT := Lib.hid (fun j hj hno hy => pick_at (T := throwsL h x) (p := fun t => farM h (nextM x t) b == farM h x b - 1) (j := j) hj hno hy)
      have HPD : Hid (pickT h b x = ((throwsL h x).find? fun t => farM h (nextM x t) b == farM h x b - 1).getD 0) := rfl
      have HNO := Lib.hid hPN
      clear hPN HPN hb4 hout hM C0 C1 C2 C3 F0 F1 hot
      generalize throwsL h x = T at *
      go_wp2
      go_loopw [6, 21] (fun v i wr => ∃ j : Nat, j ≤ T.length ∧ i = .int .i64 j ∧ OwnI1 w1.heap.size wr v O ∧ Hid (∀ t ∈ T.take j, (farM h (nextM x t) b == farM h x b - 1) = false) ∧ Below w4.heap.size w4 wr) (fun _ i _ => T.length - (intOf i).toNat)
      case atStart => exact ⟨0, by omega, rfl, hout4, fun t ht => by simp at ht, Below.refl _ _⟩
      case round =>
        clear hout4
        obtain ⟨j, hj, rfl, hout5, HNJ, hb5⟩ := hrel
        have hs5 := hb5.size
        by_cases hjlt : j < T.length
        · obtain ⟨b2, o2, rfl, hy⟩ := hcT j hjlt
          have hb2r := hlt4 b2 rfl
          have hy' : wr.cell? ⟨b2, o2 + j, none⟩ = some (.int .i64 (T.getD j 0)) := by rw [hb5.cell (p := ⟨b2, o2 + j, none⟩) hb2r.2]; exact hy
          have E0 := keepc hb5 D0
          have E1 := keepc hb5 D1
          have htm := HT.out _ (getD_mem hjlt)
          have hnx := HC.out x (T.getD j 0) HX.out htm.2
          have hnb := HBD.out _ hnx
          have htb := htm.1
          have hfn := HFB.out _ hnx
          have HF1 := Lib.hid (HFR.out _ hnx)
          have HF0 := Lib.hid (HFR.out _ HX.out)
          have HNX := Lib.hid hnx
          have HPJ := Lib.hid (HPT.out j hjlt HNJ.out)
          have hlen := maskL_len n h hh
          have HTK : Hid (T.take (j + 1) = T.take j ++ [T.getD j 0]) := by
            unfold Hid
            rw [take_snoc _ _ hjlt]; simp [List.getD, hjlt]
          obtain ⟨t, Ht⟩ : ∃ t, Hid (T.getD j 0 = t) := ⟨_, rfl⟩
          rw [Ht.out] at hy' hnb htb hfn HF1 HNX HPJ HTK
          have hM5 := hM4.below hb5
          have HOW := Lib.hid (fun k hk => World.ownsRow.lt hout5 k hk)
          clear hy htm hnx hcT HT
          by_cases hok : farM h (nextM x t) b = farM h x b - 1
          · go_wp2_with (first
              | (go_at_call 91; refine (c_impl_State_next h x t _ hxq (by omega)).mono ?_; rintro e w6 ⟨rfl, hb6⟩; have hM6 := hM5.below hb6; have P0 := keepc hb6 E0; have P1 := keepc hb6 E1; have hs6 := hb6.size; have hz6 : w.heap.size < w6.heap.size := by omega)
              | (at_lookup; refine map_get rfl _ _ _ rfl Try.underlying150 Try.underlying2 Try.underlying2 zeroI W0.heap.size w1.heap.size bm nm (dist (adjG (maskL n h) h) b) (nextM x t) _ rfl rfl (by exact hM6.al _) (by omega) ?_; rw [HF1.out])
              | (at_lookup; refine map_get rfl _ _ _ rfl Try.underlying150 Try.underlying2 Try.underlying2 zeroI W0.heap.size w1.heap.size bm nm (dist (adjG (maskL n h) h) b) x _ rfl rfl (by exact hM6.al _) (by omega) ?_; rw [HF0.out])
              | (at_builtin; refine push_int_at rfl _ _ _ _ rfl Try.underlying24 infoI w1.heap.size _ _ _ (w6.alloc (Obj.cells #[Value.int IntKind.i64 h, Value.int IntKind.i64 (nextM x t)] 28)) rfl (by rw [World.size_alloc]; rfl) (by exact (hout5.below hb6).al _) (by omega) (by rw [World.size_alloc]; omega) ?_; intro v7 w7 ho7 hg7 hat7 hs7
                 have R0 := grown_c hg7 (al_c _ P0) (fun e => by have := (HOW.out _ e).1; omega)
                 have R1 := grown_c hg7 (al_c _ P1) (fun e => by have := (HOW.out _ e).1; omega)
                 have S0 := grown_f hg7 (al_c _ P0) (al_f _ P0 (frozenc hb6 E0 (frozenc hb5 D0 G0))) (fun e => by have := (HOW.out _ e).1; omega)
                 have S1 := grown_f hg7 (al_c _ P1) (al_f _ P1 (frozenc hb6 E1 (frozenc hb5 D1 G1))) (fun e => by have := (HOW.out _ e).1; omega)
                 have N0 : w7.cell? ⟨w6.heap.size, 0, none⟩ = some (.int .i64 h) := grown_c hg7 (World.cell?_alloc_at _ _ _ _ rfl) (fun e => by have := (HOW.out _ e).2; omega)
                 have N1 : w7.cell? ⟨w6.heap.size, 1, none⟩ = some (.int .i64 (nextM x t)) := grown_c hg7 (World.cell?_alloc_at _ _ _ _ rfl) (fun e => by have := (HOW.out _ e).2; omega)))
            obtain ⟨X0, X1, XF, hg8⟩ := set2 w7 w.heap.size (.int .i64 h) (.int .i64 (nextM x t)) _ _ R0 R1
            have Y2 := grown_c hg8 (grown_c hg7 (al_c _ (keepc hb6 (keepc hb5 D2))) (fun e => by have := (HOW.out _ e).1; omega)) (fun e => by simp at e)
            have Y3 := grown_c hg8 (grown_c hg7 (al_c _ (keepc hb6 (keepc hb5 D3))) (fun e => by have := (HOW.out _ e).1; omega)) (fun e => by simp at e)
            have hs7' := hg7.size
            rw [World.size_alloc] at hs7'
            have hs8 := hg8.size
            have hM7 := OwnM.upd (hM6.al _) (Upd.of_grown (lo := w1.heap.size) (hi := wr.heap.size) hg7 (fun q hq => HOW.out q hq)) (Or.inl (Nat.le_refl _))
            have hs0 := HS0.out
            have hM8 := OwnM.upd hM7 (Upd.of_grown (lo := w.heap.size) (hi := w.heap.size + 1) hg8 (fun q hq => by cases hq; omega)) (Or.inr (by omega))
            have B7 : Below w.heap.size w w7 := (((hB4.tr hb5).tr hb6).al _).grown hg7 (by rw [World.size_alloc]; omega) (fun q hq => by have := (HOW.out q hq).1; omega)
            have B8 := B7.grown hg8 (by omega) (fun q hq => by cases hq; omega)
            have hpt : pickT h b x = t := by rw [HPD.out, HPJ.out (by simp [hok])]; rfl
            have HO8 : Hid ((O ++ [t]) ++ shortL h (nextM x t) b = shortL h a b) := by
              unfold Hid
              have h1 := HSTx.out
              rw [hpt] at h1
              rw [List.append_assoc, ← HO.out, h1]; rfl
            have ho8 := (ho7.setBelow (p := ⟨w.heap.size, 0, none⟩) (show w.heap.size < w1.heap.size by omega) (.int .i64 h)).setBelow (p := ⟨w.heap.size, 1, none⟩) (show w.heap.size < w1.heap.size by omega) (.int .i64 (nextM x t))
            go_roundg (gk - 1)
            case measure => omega
            case rel => exact ⟨O ++ [t], nextM x t, by omega, HO8, HNX, by rw [List.length_append]; simp only [List.length_singleton]; omega, ho8, X0, X1, Y2, Y3, by rw [XF]; exact S0, by rw [XF]; exact S1, hM8, B8, by omega⟩
          · have hok2 : (farM h (nextM x t) b == farM h x b - 1) = false := by simp [hok]
            go_wp2_with (first
              | (go_at_call 91; refine (c_impl_State_next h x t _ hxq (by omega)).mono ?_; rintro e w6 ⟨rfl, hb6⟩; have hM6 := hM5.below hb6; have P0 := keepc hb6 E0; have P1 := keepc hb6 E1; have hs6 := hb6.size; have hz6 : w.heap.size < w6.heap.size := by omega)
              | (at_lookup; refine map_get rfl _ _ _ rfl Try.underlying150 Try.underlying2 Try.underlying2 zeroI W0.heap.size w1.heap.size bm nm (dist (adjG (maskL n h) h) b) (nextM x t) _ rfl rfl (by exact hM6.al _) (by omega) ?_; rw [HF1.out])
              | (at_lookup; refine map_get rfl _ _ _ rfl Try.underlying150 Try.underlying2 Try.underlying2 zeroI W0.heap.size w1.heap.size bm nm (dist (adjG (maskL n h) h) b) x _ rfl rfl (by exact hM6.al _) (by omega) ?_; rw [HF0.out]))
            go_roundw
            case rel => exact ⟨j + 1, by omega, by go_num, (hout5.below hb6).al _, by
              rw [HTK.out]
              intro s hs
              rcases List.mem_append.1 hs with hs | hs
              · exact HNJ.out s hs
              · rw [List.mem_singleton.1 hs]; exact hok2, (hb5.tr hb6).al _⟩
            case measure => simp [intOf]; omega
        · exact (HNO.out (by rw [List.take_of_length_le (by omega)] at HNJ; exact HNJ.out)).elim
end Go.Proofs.Ytddfdppoclnpcaa
