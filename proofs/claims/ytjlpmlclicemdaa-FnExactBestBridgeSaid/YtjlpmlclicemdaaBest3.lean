/- Contract of spec.BestBridge. -/
import Derived.Test.YtjlpmlclicemdaaBest2
namespace Go.Proofs.Ytjlpmlclicemdaa
open Go.ChangeShapes Go.WideShapes Go.ChangeAt Go.RowKit
set_option linter.unusedVariables false
set_option linter.unusedSimpArgs false
theorem farAt {L : List Int} {h s t : Int} (ht : t ∈ L) : (L.map (farM h s)).getD (idx L t) 0 = farM h s t := by
  have hl := idx_lt ht
  have hg := idx_get ht
  simp [List.getD, hl, hg]
set_option maxHeartbeats 8000000 in
set_option maxRecDepth 100000 in
theorem c_spec_BestBridge (a b : List Int) (h : Int) (v1 v2 : Value) (w : World) (hr1 : RdI w v1 a) (hr2 : RdI w v2 b) :
    Calls Try.prog 27 #[v1, v2, .int .i64 h] w fun e w' => e = .returned (.tuple #[.int .i64 (bestI a b h), .int .i64 (bestK a b h), .int .i64 (brC a b h)]) ∧ Below w.heap.size w w' := by
  have HR1 := Lib.hid hr1
  have HR2 := Lib.hid hr2
  clear hr1 hr2
  cases hc : (brC a b h != 0)
  · have hc0 : brC a b h = 0 := by simpa using hc
    have HX : Hid (bestI a b h = (bestT a b h).1) := by unfold Hid bestI; rw [if_pos hc0]
    have HY : Hid (bestK a b h = (bestT a b h).2.1) := by unfold Hid bestK; rw [if_pos hc0]
    have HC := Lib.hid hc0
    obtain ⟨⟨hva, hvb⟩, hh, ⟨hpa, hpb⟩, he⟩ := brC_ok hc0
    have hla := (validP_iff.1 hva).1.2
    have hlb := (validP_iff.1 hvb).1.2
    have HVA := Lib.hid hva
    have HVB := Lib.hid hvb
    have hhb : 0 ≤ h ∧ h ≤ 10 := by omega
    have HMA := Lib.hid (fun i : Nat => stM_mem hva (i : Int) hh hpa)
    have HMB : Hid (∀ i : Nat, stM b (i : Int) h ∈ maskL (propsP a) h) := fun i => by rw [he]; exact stM_mem hvb (i : Int) hh hpb
    have HSA := Lib.hid (fun k hk => stsL_at (p := a) (h := h) (k := k) hk)
    have HSB := Lib.hid (fun k hk => stsL_at (p := b) (h := h) (k := k) hk)
    have HLA := Lib.hid (stsL_len a h)
    have HLB := Lib.hid (stsL_len b h)
    have HXB := Lib.hid (arcs_bd (n := propsP a) hh)
    have HFL := Lib.hid (fun x hx => farL_eq (n := propsP a) (m := x) hh hx)
    have HFA := Lib.hid (fun s t ht => farAt (L := maskL (propsP a) h) (h := h) (s := s) (t := t) ht)
    have HIX := Lib.hid (fun x hx => idx_lt (L := maskL (propsP a) h) (m := x) hx)
    have HSO := Lib.hid (maskL_sorted (propsP a) h)
    have hlen := maskL_len (propsP a) h hh
    have hXl := arcs_len' (propsP a) h hh
    clear hc0 hva hvb hpa hpb he
    go_enter Try.func27, Try.ntmps27
    go_wp2_with fail
    refine (c_spec_l10Code a b h _ _ _ HR1.out HR2.out).mono ?_; rintro e w1 ⟨rfl, hb1⟩
    go_wp2_with fail
    refine (c_spec_l08States a h _ _ (HR1.out.below hb1) HVA.out hh).mono ?_; rintro e w2 ⟨u2, rfl, ho2, hb2⟩
    have B2 : Below w.heap.size w w2 := hb1.tr hb2
    go_wp2_with fail
    refine (c_spec_l08States b h _ _ (HR2.out.below B2) HVB.out hh).mono ?_; rintro e w3 ⟨u3, rfl, ho3, hb3⟩
    have B3 : Below w.heap.size w w3 := B2.tr hb3
    go_wp2_with fail
    refine (c_spec_l02Props a _ _ (HR1.out.below B3) HVA.out).mono ?_; rintro e w4 ⟨rfl, rfl⟩
    go_wp2_with fail
    refine (c_spec_l09Masks (propsP a) h _ hhb).mono ?_; rintro e w5 ⟨v5, rfl, ho5, hb5⟩
    have hrM := ho5.rd
    have HMW5 := Lib.hid hrM
    obtain ⟨aM, capM, rfl, hlM, _⟩ := hrM
    go_wp2_with fail
    refine (c_spec_l09Arcs (propsP a) h _ _ hh HMW5.out).mono ?_; rintro e w6 ⟨v6, rfl, ho6, hb6⟩
    have HMW6 := Lib.hid (HMW5.out.below hb6)
    have HR6 : Hid (RdRow 3 rowA w6 v6 (arcsL (maskL (propsP a) h) h)) := OwnRow.rd rowA_len ho6
    have B6 : Below w.heap.size w w6 := (B3.tr hb5).tr hb6
    have hlt2 := World.ownsRow.lt ho2.1
    have hlt3 := World.ownsRow.lt ho3.1
    obtain ⟨a2, cap2, rfl, hl2, hc2⟩ := OwnRow.rd (rowS_len h) ho2
    obtain ⟨a3, cap3, rfl, hl3, hc3⟩ := OwnRow.rd (rowS_len h) ho3
    have hs3 := hb3.size
    have hs5 := hb5.size
    have hs6 := hb6.size
    have B26 : Below w2.heap.size w2 w6 := (hb3.tr hb5).tr hb6
    have B36 : Below w3.heap.size w3 w6 := hb5.tr hb6
    have HCA : Hid (∀ k, k < a.length → ∃ b1 o1, a2 = some ⟨b1, o1, none⟩ ∧ b1 < w6.heap.size ∧ w6.cell? ⟨b1, o1 + k * 2 + 1, none⟩ = some (.int .i64 (stM a k h))) := fun k hk => by
      obtain ⟨b1, o1, hae, hx⟩ := hc2 k (by rw [HLA.out]; exact hk)
      have hbl := (hlt2 b1 (by rw [hae]; rfl)).2
      refine ⟨b1, o1, hae, by omega, ?_⟩
      have h1 := hx 1 (.int .i64 ((stsL a h)[k]'(by rw [HLA.out]; exact hk))) rfl
      rw [B26.cell (p := ⟨b1, o1 + k * 2 + 1, none⟩) hbl, h1, ← HSA.out k hk]; simp [List.getD, HLA.out, hk]
    have HCB : Hid (∀ k, k < b.length → ∃ b1 o1, a3 = some ⟨b1, o1, none⟩ ∧ b1 < w6.heap.size ∧ w6.cell? ⟨b1, o1 + k * 2 + 1, none⟩ = some (.int .i64 (stM b k h))) := fun k hk => by
      obtain ⟨b1, o1, hae, hx⟩ := hc3 k (by rw [HLB.out]; exact hk)
      have hbl := (hlt3 b1 (by rw [hae]; rfl)).2
      refine ⟨b1, o1, hae, by omega, ?_⟩
      have h1 := hx 1 (.int .i64 ((stsL b h)[k]'(by rw [HLB.out]; exact hk))) rfl
      rw [B36.cell (p := ⟨b1, o1 + k * 2 + 1, none⟩) hbl, h1, ← HSB.out k hk]; simp [List.getD, HLB.out, hk]
    have hl2' := HLA.out
    have hl3' := HLB.out
    clear hc2 hc3 ho2 ho3 ho5 ho6 hlt2 hlt3 HMW5 hb5 hb6 hb3
    go_wp2
    go_loopw [14, 15, 16, 17] (fun x y z i wr => ∃ k : Nat, k ≤ a.length ∧ i = .int .i64 k ∧ x = .int .i64 (bTo (bestD a b h) b.length k).1 ∧ y = .int .i64 (bTo (bestD a b h) b.length k).2.1 ∧ z = .int .i64 (bTo (bestD a b h) b.length k).2.2 ∧ Below w6.heap.size w6 wr) (fun _ _ _ i _ => a.length - (intOf i).toNat)
    case atStart => exact ⟨0, by omega, rfl, rfl, rfl, rfl, Below.refl _ _⟩
    case round =>
      obtain ⟨k, hk, rfl, rfl, rfl, rfl, hbr⟩ := hrel
      have hbs := hbr.size
      by_cases hlt : k < a.length
      · obtain ⟨b1, o1, rfl, hb1r, hx⟩ := HCA.out k hlt
        have y1 := keepc hbr hx
        have hsm := HMA.out k
        have HBS := Lib.hid (bTo_succ (bestD a b h) b.length k)
        have HDk : Hid (∀ j, bestD a b h k j = farM h (stM a (k : Int) h) (stM b (j : Int) h)) := fun j => rfl
        have HFLs := Lib.hid (HFL.out _ hsm)
        have hix := HIX.out _ hsm
        have HSM := Lib.hid hsm
        clear hx hsm
        obtain ⟨s, Hs⟩ : ∃ s, Hid (stM a (k : Int) h = s) := ⟨_, rfl⟩
        rw [Hs.out] at y1 HDk HFLs hix HSM
        unfold idxI at HFLs
        obtain ⟨c0, Hc0⟩ : ∃ c0, Hid (bTo (bestD a b h) b.length k = c0) := ⟨_, rfl⟩
        rw [Hc0.out] at HBS
        rw [Hc0.out]
        go_wp2_with fail
        refine (c_spec_l09Find (maskL (propsP a) h) s _ _ (HMW6.out.below hbr) HSO.out HSM.out (by omega)).mono ?_; rintro e w7 ⟨rfl, rfl⟩
        go_wp2_with fail
        refine (c_spec_l09Far (maskL (propsP a) h) (arcsL (maskL (propsP a) h) h) ((idx (maskL (propsP a) h) s : Nat) : Int) _ _ _ (HMW6.out.below hbr) (RdRow.below HR6.out hbr) HXB.out (by omega) (by omega) (by omega)).mono ?_; rintro e w8 ⟨v8, rfl, ho8, hb8⟩
        rw [HFLs.out] at ho8
        have B8 : Below w6.heap.size w6 w8 := hbr.tr hb8
        obtain ⟨aF, capF, rfl, hlF, hcF⟩ := ho8.rd
        have HCF := Lib.hid hcF
        have HMW8 := Lib.hid (HMW6.out.below B8)
        clear hcF ho8
        go_wp2
        go_loopw [14, 15, 16, 19] (fun x y z i wr => ∃ j : Nat, j ≤ b.length ∧ i = .int .i64 j ∧ x = .int .i64 (bRow (bestD a b h) k c0 j).1 ∧ y = .int .i64 (bRow (bestD a b h) k c0 j).2.1 ∧ z = .int .i64 (bRow (bestD a b h) k c0 j).2.2 ∧ Below w8.heap.size w8 wr) (fun _ _ _ i _ => b.length - (intOf i).toNat)
        case atStart => exact ⟨0, by omega, rfl, rfl, rfl, rfl, Below.refl _ _⟩
        case round =>
          obtain ⟨j, hj, rfl, rfl, rfl, rfl, hb9⟩ := hrel
          by_cases hjl : j < b.length
          · obtain ⟨b3, o3, rfl, hb3r, hx⟩ := HCB.out j hjl
            have z1 := keepc hb9 (keepc B8 hx)
            have htm := HMB.out j
            have hit := HIX.out _ htm
            obtain ⟨bF, oF, rfl, hcf⟩ := HCF.out (idx (maskL (propsP a) h) (stM b (j : Int) h)) (by rw [List.length_map]; exact hit)
            rw [HFA.out s _ htm] at hcf
            have HRS := Lib.hid (bRow_succ (bestD a b h) k j c0)
            have HDj := Lib.hid (HDk.out j)
            have hcf' := keepc hb9 hcf
            have HTM := Lib.hid htm
            clear hx htm hcf
            obtain ⟨t, Ht⟩ : ∃ t, Hid (stM b (j : Int) h = t) := ⟨_, rfl⟩
            rw [Ht.out] at z1 HDj hit hcf' HTM
            obtain ⟨it, Hit⟩ : ∃ it : Nat, Hid (idx (maskL (propsP a) h) t = it) := ⟨_, rfl⟩
            rw [Hit.out] at hit hcf'
            have hit0 : (0 : Int) ≤ (it : Int) := Int.natCast_nonneg _
            have hit1 : (it : Int) < ((maskL (propsP a) h).length : Int) := by omega
            obtain ⟨d, Hd⟩ : ∃ d, Hid (farM h s t = d) := ⟨_, rfl⟩
            rw [Hd.out] at hcf' HDj
            rw [HDj.out] at HRS
            obtain ⟨c1, Hc1⟩ : ∃ c1, Hid (bRow (bestD a b h) k c0 j = c1) := ⟨_, rfl⟩
            rw [Hc1.out] at HRS
            rw [Hc1.out]
            by_cases hyes : c1.2.2 < 0 ∨ d < c1.2.2
            · have HRR : Hid (bRow (bestD a b h) k c0 (j + 1) = ((k : Int), (j : Int), d)) := by unfold Hid; rw [HRS.out, bStep_yes hyes]
              by_cases hneg : c1.2.2 < 0
              · skip
                go_wp2_with fail
                refine (c_spec_l09Find (maskL (propsP a) h) t _ _ (HMW8.out.below hb9) HSO.out HTM.out (by omega)).mono ?_; rintro e w10 ⟨rfl, rfl⟩; rw [Hit.out]
                go_wp2
                go_roundw
                case rel => exact ⟨j + 1, by omega, by go_num, by rw [HRR.out], by rw [HRR.out], by rw [HRR.out], hb9⟩
                case measure => simp [intOf]; omega
              · have hlt3 : d < c1.2.2 := hyes.resolve_left hneg
                go_wp2_with fail
                refine (c_spec_l09Find (maskL (propsP a) h) t _ _ (HMW8.out.below hb9) HSO.out HTM.out (by omega)).mono ?_; rintro e w10 ⟨rfl, rfl⟩; rw [Hit.out]
                go_wp2
                go_roundw
                case rel => exact ⟨j + 1, by omega, by go_num, by rw [HRR.out], by rw [HRR.out], by rw [HRR.out], hb9⟩
                case measure => simp [intOf]; omega
            · have hn1 : ¬ c1.2.2 < 0 := fun e => hyes (Or.inl e)
              have hn2 : ¬ d < c1.2.2 := fun e => hyes (Or.inr e)
              have HRR : Hid (bRow (bestD a b h) k c0 (j + 1) = c1) := by unfold Hid; rw [HRS.out, bStep_no hn1 hn2]
              go_wp2_with fail
              refine (c_spec_l09Find (maskL (propsP a) h) t _ _ (HMW8.out.below hb9) HSO.out HTM.out (by omega)).mono ?_; rintro e w10 ⟨rfl, rfl⟩; rw [Hit.out]
              go_wp2
              go_roundw
              case rel => exact ⟨j + 1, by omega, by go_num, by rw [HRR.out], by rw [HRR.out], by rw [HRR.out], hb9⟩
              case measure => simp [intOf]; omega
          · obtain rfl : j = b.length := by omega
            go_wp2
            go_roundw
            case rel => exact ⟨k + 1, by omega, by go_num, by rw [HBS.out], by rw [HBS.out], by rw [HBS.out], B8.tr hb9⟩
            case measure => simp [intOf]; omega
      · obtain rfl : k = a.length := by omega
        have HTT : Hid (bTo (bestD a b h) b.length a.length = bestT a b h) := rfl
        rw [HTT.out]
        go_wp2
        go_ret3
        exact ⟨by rw [HX.out, HY.out, HC.out]; rfl, B6.tr hbr⟩
  · have hcn : ¬ brC a b h = 0 := by simpa using hc
    have HX : Hid (bestI a b h = 0) := by unfold Hid bestI; rw [if_neg hcn]
    have HY : Hid (bestK a b h = 0) := by unfold Hid bestK; rw [if_neg hcn]
    clear hcn
    go_enter Try.func27, Try.ntmps27
    go_wp2_with fail
    refine (c_spec_l10Code a b h _ _ _ HR1.out HR2.out).mono ?_; rintro e w1 ⟨rfl, hb1⟩
    go_wp2
    go_ret3
    exact ⟨by rw [HX.out, HY.out]; rfl, hb1⟩
end Go.Proofs.Ytjlpmlclicemdaa
