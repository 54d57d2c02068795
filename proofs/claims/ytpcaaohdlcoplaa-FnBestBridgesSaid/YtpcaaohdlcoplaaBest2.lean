/- Contracts of BestBridge. -/
import Derived.Test.YtpcaaohdlcoplaaBest
namespace Go.Proofs.Ytpcaaohdlcoplaa
open Go.ChangeShapes Go.WideShapes Go.ChangeAt Go.RowKit
set_option linter.unusedVariables false
set_option linter.unusedSimpArgs false
noncomputable def bestI (a b : List Int) (h : Int) : Int := if brC a b h = 0 then (bestT a b h).1 else 0
noncomputable def bestK (a b : List Int) (h : Int) : Int := if brC a b h = 0 then (bestT a b h).2.1 else 0
set_option maxHeartbeats 4000000 in
set_option maxRecDepth 100000 in
theorem c_impl_BestBridge (a b : List Int) (h : Int) (v1 v2 : Value) (w : World) (hr1 : RdI w v1 a) (hr2 : RdI w v2 b) :
    Calls Try.prog 9 #[v1, v2, .int .i64 h] w fun e w' => e = .returned (.tuple #[.int .i64 (bestI a b h), .int .i64 (bestK a b h), .int .i64 (brC a b h)]) ∧ Below w.heap.size w w' := by
  have HR1 := Lib.hid hr1
  have HR2 := Lib.hid hr2
  clear hr1 hr2
  cases hc : (brC a b h != 0)
  · have hc0 : brC a b h = 0 := by simpa using hc
    have HX : Hid (bestI a b h = (bestT a b h).1) := by unfold Hid bestI; rw [if_pos hc0]
    have HY : Hid (bestK a b h = (bestT a b h).2.1) := by unfold Hid bestK; rw [if_pos hc0]
    have HC := Lib.hid hc0
    obtain ⟨⟨hva, hvb⟩, hh, ⟨hpa, hpb⟩, he⟩ := brC_ok hc0
    have hla := (validP_iff.1 hva).1.2
    have hlb := (validP_iff.1 hvb).1.2
    have HVA := Lib.hid hva
    have HVB := Lib.hid hvb
    have HMA := Lib.hid (fun i : Nat => stM_mem hva (i : Int) hh hpa)
    have HMB : Hid (∀ i : Nat, stM b (i : Int) h ∈ maskL (propsP a) h) := fun i => by rw [he]; exact stM_mem hvb (i : Int) hh hpb
    have HBD := Lib.hid (fun x => fun hx => mask_bd (n := propsP a) (h := h) (m := x) hh hx)
    have HSA := Lib.hid (fun k hk => stsL_at (p := a) (h := h) (k := k) hk)
    have HSB := Lib.hid (fun k hk => stsL_at (p := b) (h := h) (k := k) hk)
    have HLA := Lib.hid (stsL_len a h)
    have HLB := Lib.hid (stsL_len b h)
    have HT : Hid (bestT a b h = bTo (bestD a b h) b.length a.length) := rfl
    clear hc0 hva hvb hpa hpb he
    go_enter Try.func9, Try.ntmps9
    go_wp2_with fail
    refine (c_impl_bridgeCode a b h _ _ _ HR1.out HR2.out).mono ?_; rintro e w1 ⟨rfl, hb1⟩
    go_wp2_with fail
    refine (c_impl_statesOf a h _ _ (HR1.out.below hb1) HVA.out hh).mono ?_; rintro e w2 ⟨u2, rfl, ho2, hb2⟩
    have hlt2 := World.ownsRow.lt ho2.1
    obtain ⟨a2, cap2, rfl, hl2, hc2⟩ := OwnRow.rd (rowS_len h) ho2
    have B2 : Below w.heap.size w w2 := hb1.tr hb2
    have HC2 := Lib.hid hc2
    have hl2' := HLA.out
    clear hc2 ho2
    go_wp2
    go_loopw [10, 11, 12, 30] (fun x y z i wr => ∃ k : Nat, k ≤ a.length ∧ i = .int .i64 k ∧ x = .int .i64 (bTo (bestD a b h) b.length k).1 ∧ y = .int .i64 (bTo (bestD a b h) b.length k).2.1 ∧ z = .int .i64 (bTo (bestD a b h) b.length k).2.2 ∧ Below w2.heap.size w2 wr) (fun _ _ _ i _ => a.length - (intOf i).toNat)
    case atStart => exact ⟨0, by omega, rfl, rfl, rfl, rfl, Below.refl _ _⟩
    case round =>
      obtain ⟨k, hk, rfl, rfl, rfl, rfl, hbr⟩ := hrel
      have hbs := hbr.size
      by_cases hlt : k < a.length
      · obtain ⟨b1, o1, rfl, hx⟩ := HC2.out k (by rw [HLA.out]; exact hlt)
        have hb1r := hlt2 b1 rfl
        have y0 : wr.cell? ⟨b1, o1 + k * 2, none⟩ = some (.int .i64 h) := by rw [hbr.cell (p := ⟨b1, o1 + k * 2, none⟩) hb1r.2]; exact hx 0 _ rfl
        have y1 : wr.cell? ⟨b1, o1 + k * 2 + 1, none⟩ = some (.int .i64 (stM a k h)) := by
          rw [hbr.cell (p := ⟨b1, o1 + k * 2 + 1, none⟩) hb1r.2]
          have h1 := hx 1 (.int .i64 ((stsL a h)[k]'(by rw [HLA.out]; exact hlt))) rfl
          rw [h1, ← HSA.out k hlt]; simp [List.getD, HLA.out, hlt]
        have hxm := mem_maskL.1 (HMA.out k)
        have hxq := hxm.1
        have HBS := Lib.hid (bTo_succ (bestD a b h) b.length k)
        have HDk : Hid (∀ j, bestD a b h k j = farM h (stM a (k : Int) h) (stM b (j : Int) h)) := fun j => rfl
        have hneb : ¬ wr.heap.size = b1 := by omega
        clear hx hxm
        obtain ⟨s, Hs⟩ : ∃ s, Hid (stM a (k : Int) h = s) := ⟨_, rfl⟩
        rw [Hs.out] at y1 hxq HDk
        obtain ⟨c0, Hc0⟩ : ∃ c0, Hid (bTo (bestD a b h) b.length k = c0) := ⟨_, rfl⟩
        rw [Hc0.out] at HBS
        rw [Hc0.out]
        go_wp2_with fail
        refine (c_impl_distancesFrom h s _ hh hxq).mono ?_; rintro e w4 ⟨bm, rfl, hom, hb4⟩
        have B4 : Below w2.heap.size w2 w4 := Below.tr (hbr.al _) hb4
        go_wp2_with fail
        refine (c_impl_statesOf b h _ _ (HR2.out.below (B2.tr B4)) HVB.out hh).mono ?_; rintro e w5 ⟨u5, rfl, ho5, hb5⟩
        have hlt5 := World.ownsRow.lt ho5.1
        obtain ⟨a5, cap5, rfl, hl5, hc5⟩ := OwnRow.rd (rowS_len h) ho5
        have B5 : Below w2.heap.size w2 w5 := B4.tr hb5
        have hom5 := OwnM.below hom hb5
        have HC5 := Lib.hid hc5
        have hl5' := HLB.out
        clear hc5 ho5 hom
        go_wp2
        go_loopw [10, 11, 12, 41] (fun x y z i wr => ∃ j : Nat, j ≤ b.length ∧ i = .int .i64 j ∧ x = .int .i64 (bRow (bestD a b h) k c0 j).1 ∧ y = .int .i64 (bRow (bestD a b h) k c0 j).2.1 ∧ z = .int .i64 (bRow (bestD a b h) k c0 j).2.2 ∧ Below w5.heap.size w5 wr) (fun _ _ _ i _ => b.length - (intOf i).toNat)
        case atStart => exact ⟨0, by omega, rfl, rfl, rfl, rfl, Below.refl _ _⟩
        case round =>
          obtain ⟨j, hj, rfl, rfl, rfl, rfl, hb6⟩ := hrel
          have hs6 := hb6.size
          by_cases hjl : j < b.length
          · obtain ⟨b3, o3, rfl, hx⟩ := HC5.out j (by rw [HLB.out]; exact hjl)
            have hb3r := hlt5 b3 rfl
            have z0 : wr.cell? ⟨b3, o3 + j * 2, none⟩ = some (.int .i64 h) := by rw [hb6.cell (p := ⟨b3, o3 + j * 2, none⟩) hb3r.2]; exact hx 0 _ rfl
            have z1 : wr.cell? ⟨b3, o3 + j * 2 + 1, none⟩ = some (.int .i64 (stM b j h)) := by
              rw [hb6.cell (p := ⟨b3, o3 + j * 2 + 1, none⟩) hb3r.2]
              have h1 := hx 1 (.int .i64 ((stsL b h)[j]'(by rw [HLB.out]; exact hjl))) rfl
              rw [h1, ← HSB.out j hjl]; simp [List.getD, HLB.out, hjl]
            have htq := HBD.out _ (HMB.out j)
            have HRS := Lib.hid (bRow_succ (bestD a b h) k j c0)
            have HDj := Lib.hid (HDk.out j)
            have hneb3 : ¬ wr.heap.size = b3 := by omega
            have hom6 := (OwnM.below hom5 hb6).al (Obj.cells #[Value.int IntKind.i64 h, Value.int IntKind.i64 (stM b j h)] 35)
            clear hx
            obtain ⟨t, Ht⟩ : ∃ t, Hid (stM b (j : Int) h = t) := ⟨_, rfl⟩
            rw [Ht.out] at z1 htq HDj hom6
            have HG : Hid ((dist (adjM h) s t).getD 0 = farM h s t) := rfl
            obtain ⟨d, Hd⟩ : ∃ d, Hid (farM h s t = d) := ⟨_, rfl⟩
            rw [Hd.out] at HG HDj
            rw [HDj.out] at HRS
            obtain ⟨c1, Hc1⟩ : ∃ c1, Hid (bRow (bestD a b h) k c0 j = c1) := ⟨_, rfl⟩
            rw [Hc1.out] at HRS
            rw [Hc1.out]
            have BA := hb6.al (Obj.cells #[Value.int IntKind.i64 h, Value.int IntKind.i64 t] 35)
            by_cases hyes : c1.2.2 < 0 ∨ d < c1.2.2
            · have HRR : Hid (bRow (bestD a b h) k c0 (j + 1) = ((k : Int), (j : Int), d)) := by unfold Hid; rw [HRS.out, bStep_yes hyes]
              by_cases hneg : c1.2.2 < 0
              · go_wp2_with (at_lookup; refine map_get rfl _ _ _ rfl Try.underlying86 Try.underlying2 Try.underlying2 zeroI _ _ bm _ (dist (adjM h) s) t _ rfl rfl (by exact hom6) (by omega) ?_; rw [HG.out])
                go_roundw
                case rel => exact ⟨j + 1, by omega, by go_num, by rw [HRR.out], by rw [HRR.out], by rw [HRR.out], BA⟩
                case measure => simp [intOf]; omega
              · have hlt3 : d < c1.2.2 := hyes.resolve_left hneg
                go_wp2_with (at_lookup; refine map_get rfl _ _ _ rfl Try.underlying86 Try.underlying2 Try.underlying2 zeroI _ _ bm _ (dist (adjM h) s) t _ rfl rfl (by exact hom6) (by omega) ?_; rw [HG.out])
                go_roundw
                case rel => exact ⟨j + 1, by omega, by go_num, by rw [HRR.out], by rw [HRR.out], by rw [HRR.out], BA⟩
                case measure => simp [intOf]; omega
            · have hn1 : ¬ c1.2.2 < 0 := fun e => hyes (Or.inl e)
              have hn2 : ¬ d < c1.2.2 := fun e => hyes (Or.inr e)
              have HRR : Hid (bRow (bestD a b h) k c0 (j + 1) = c1) := by unfold Hid; rw [HRS.out, bStep_no hn1 hn2]
              go_wp2_with (at_lookup; refine map_get rfl _ _ _ rfl Try.underlying86 Try.underlying2 Try.underlying2 zeroI _ _ bm _ (dist (adjM h) s) t _ rfl rfl (by exact hom6) (by omega) ?_; rw [HG.out])
              go_roundw
              case rel => exact ⟨j + 1, by omega, by go_num, by rw [HRR.out], by rw [HRR.out], by rw [HRR.out], BA⟩
              case measure => simp [intOf]; omega
          · obtain rfl : j = b.length := by omega
            go_wp2
            go_roundw
            case rel => exact ⟨k + 1, by omega, by go_num, by rw [HBS.out], by rw [HBS.out], by rw [HBS.out], B5.tr hb6⟩
            case measure => simp [intOf]; omega
      · obtain rfl : k = a.length := by omega
        have HTT : Hid (bTo (bestD a b h) b.length a.length = bestT a b h) := rfl
        rw [HTT.out]
        go_wp2
        go_ret3
        exact ⟨by rw [HX.out, HY.out, HC.out]; rfl, B2.tr hbr⟩
  · have hcn : ¬ brC a b h = 0 := by simpa using hc
    have HX : Hid (bestI a b h = 0) := by unfold Hid bestI; rw [if_neg hcn]
    have HY : Hid (bestK a b h = 0) := by unfold Hid bestK; rw [if_neg hcn]
    clear hcn
    go_enter Try.func9, Try.ntmps9
    go_wp2_with fail
    refine (c_impl_bridgeCode a b h _ _ _ HR1.out HR2.out).mono ?_; rintro e w1 ⟨rfl, hb1⟩
    go_wp2
    go_ret3
    exact ⟨by rw [HX.out, HY.out]; rfl, hb1⟩
end Go.Proofs.Ytpcaaohdlcoplaa
