/- Contracts on the arcs into a state: the spec. -/
import Derived.Test.YtggffkklfdpmkaaInto
namespace Go.Proofs.Ytggffkklfdpmkaa
open Go.ChangeShapes Go.WideShapes Go.ChangeAt Go.RowKit
set_option linter.unusedVariables false
set_option maxHeartbeats 4000000 in
set_option maxRecDepth 100000 in
theorem c_spec_ArcsInto (h m : Int) (w : World) :
    Calls Try.prog 40 #[.agg #[.int .i64 h, .int .i64 m]] w fun e w' => ∃ v, e = .returned (.tuple #[v, .int .i64 (validC h m)]) ∧ OwnA w.heap.size w'.heap.size w' v (intoX h m) ∧ Below w.heap.size w w' := by
  cases hv : validB h m
  · have HX : Hid (intoX h m = []) := by unfold Hid intoX; rw [hv]; rfl
    have HV : Hid (validC h m = 1) := by unfold Hid validC; rw [hv]; rfl
    go_enter Try.func40, Try.ntmps40
    go_wp2_with (go_at_call 66; refine (c_spec_l08Ok _ _ _).mono ?_; rintro e w1 ⟨rfl, hb⟩; obtain ⟨hc, hf⟩ := bcell hb)
    go_ret2
    exact ⟨_, by rw [HV.out]; rfl, by rw [HX.out]; exact OwnRow.nil _ rfl, by (repeat (first | (with_reducible assumption) | (with_reducible exact Below.refl _ _) | (with_reducible refine Below.setCell ?_ (by first | (simp; done) | (simp; omega)) _) | (with_reducible refine Below.al ?_ _) | (with_reducible refine Below.dr ?_) | (with_reducible refine Below.drN ?_ _) | (with_reducible refine Below.tr ?_ (by with_reducible assumption))))⟩
  · have hk := valid_iff hv
    have hmem := mem_own hv
    have hb10 := valid_bd hv
    have HV : Hid (validC h m = 0) := by unfold Hid validC; rw [hv]; rfl
    have HX := Lib.hid (intoX_ok hv)
    have HQ : Hid (stateIdx h m = ((idx (maskL (popI m) h) m : Nat) : Int)) := by unfold Hid stateIdx; rw [hv]; rfl
    have hXl := arcs_len (popI m) h hk.1
    have HK := Lib.hid hk
    have HMEM := Lib.hid hmem
    have hh1 : 1 ≤ h ∧ h ≤ 10 := hk.1
    have hmq : 0 ≤ m ∧ m < 1024 := mask_bd hk.1 hmem
    clear hk hmem
    go_enter Try.func40, Try.ntmps40
    go_wp2_with (go_at_call 66; refine (c_spec_l08Ok _ _ _).mono ?_; rintro e w1 ⟨rfl, hb⟩; obtain ⟨hc, hf⟩ := bcell hb)
    have hz1 : w.heap.size < w1.heap.size := Nat.lt_of_lt_of_le (by simp) hb.size
    have B1 : Below w.heap.size w w1 := by (repeat (first | (with_reducible assumption) | (with_reducible exact Below.refl _ _) | (with_reducible refine Below.setCell ?_ (by first | (simp; done) | (simp; omega)) _) | (with_reducible refine Below.al ?_ _) | (with_reducible refine Below.dr ?_) | (with_reducible refine Below.drN ?_ _) | (with_reducible refine Below.tr ?_ (by with_reducible assumption))))
    have k0 : w1.cell? ⟨w.heap.size, 0, none⟩ = some (.int .i64 h) := by go_simp
    have k1 : w1.cell? ⟨w.heap.size, 1, none⟩ = some (.int .i64 m) := by go_simp
    clear hc hf hb
    go_region_held3 (fun w' => w'.cell? ⟨w.heap.size, 0, none⟩ = some (.int .i64 h) ∧ w'.cell? ⟨w.heap.size, 1, none⟩ = some (.int .i64 m))
      (go_keep)
      (first
        | ((go_at_call 72; refine (c_spec_l08Count m _ hmq).mono ?_; rintro e w2 ⟨rfl, rfl⟩))
        | ((go_at_call 58; refine (c_spec_l09Masks (popI m) h _ (by omega)).mono ?_; rintro e w3 ⟨v3, rfl, ho3, hb3⟩; have hb3' := below_drew hb3; have hz3 := Nat.lt_of_lt_of_le hz1 hb3'.size; have p0 := (hb3'.cell (p := ⟨w.heap.size, 0, none⟩) hz1).trans k0; have p1 := (hb3'.cell (p := ⟨w.heap.size, 1, none⟩) hz1).trans k1)))
    have hlen := maskL_len (popI m) h hh1
    have hrM := ho3.rd
    have hsoM := maskL_sorted (popI m) h
    go_wp2_with (first
      | (go_at_call 71; refine (c_spec_l09Find (maskL (popI m) h) m _ _ hrM hsoM HMEM.out (by omega)).mono ?_; rintro e w4 ⟨rfl, rfl⟩)
      | (go_at_call 57; refine (c_spec_l09Arcs (popI m) h _ _ hh1 hrM).mono ?_; rintro e w4 ⟨v4, rfl, ho4, hb4⟩))
    have B3 : Below w.heap.size w w3 := by (repeat (first | (with_reducible assumption) | (with_reducible exact Below.refl _ _) | (with_reducible refine Below.setCell ?_ (by first | (simp; done) | (simp; omega)) _) | (with_reducible refine Below.al ?_ _) | (with_reducible refine Below.dr ?_) | (with_reducible refine Below.drN ?_ _) | (with_reducible refine Below.tr ?_ (by with_reducible assumption))))
    have hz4 := hb4.size
    rw [HQ.out] at HX
    have hr4 := OwnRow.rd rowA_len ho4
    generalize hXn : arcsL (maskL (popI m) h) h = X at *
    generalize ((idx (maskL (popI m) h) m : Nat) : Int) = q at *
    obtain ⟨a4, cap4, rfl, hl4, hcell⟩ := hr4
    have hout4 := (OwnRow.made (E := 41) (row := rowA) (sz := 3) (a := w4) (xs := []) rfl rfl (Nat.le_refl _)).tight
    have BB : Below w.heap.size w w4 := by (repeat (first | (with_reducible assumption) | (with_reducible exact Below.refl _ _) | (with_reducible refine Below.setCell ?_ (by first | (simp; done) | (simp; omega)) _) | (with_reducible refine Below.al ?_ _) | (with_reducible refine Below.dr ?_) | (with_reducible refine Below.drN ?_ _) | (with_reducible refine Below.tr ?_ (by with_reducible assumption))))
    have hcell5 : ∀ k (hk : k < X.length), ∃ b off, a4 = some ⟨b, off, none⟩ ∧ b < w4.heap.size ∧ ∀ c u, (rowA X[k])[c]? = some u → w4.cell? ⟨b, off + k * 3 + c, none⟩ = some u := fun k hk => by
      obtain ⟨b, off, ha, hc⟩ := hcell k hk
      refine ⟨b, off, ha, ?_, hc⟩
      subst ha
      exact (World.ownsRow.lt ho4.1 b rfl).2
    have HC5 := Lib.hid hcell5
    clear hcell5 hcell hXn hrM ho3 ho4 hb4 hb3 hb3' p0 p1 k0 k1 hsoM
    go_loopw [7, 8] (fun out i wr => ∃ k : Nat, k ≤ X.length ∧ i = .int .i64 k ∧ OwnA w4.heap.size wr.heap.size wr out (intoTo X q k) ∧ Below w4.heap.size w4 wr) (fun _ i _ => X.length - (intOf i).toNat)
    case atStart => exact ⟨0, by omega, rfl, by unfold intoTo; simpa using hout4, by (repeat (first | (with_reducible assumption) | (with_reducible exact Below.refl _ _) | (with_reducible refine Below.setCell ?_ (by first | (simp; done) | (simp; omega)) _) | (with_reducible refine Below.al ?_ _) | (with_reducible refine Below.dr ?_) | (with_reducible refine Below.drN ?_ _) | (with_reducible refine Below.tr ?_ (by with_reducible assumption))))⟩
    case round =>
      obtain ⟨k, hk, rfl, hout, hbr⟩ := hrel
      have hbr1 := hbr.size
      by_cases hlt : k < X.length
      · obtain ⟨b2, o2, rfl, hb2, hx⟩ := HC5.out k hlt
        obtain ⟨⟨x0, x1, x2⟩, hxk⟩ : ∃ x, X[k] = x := ⟨_, rfl⟩
        have HY := Lib.hid (intoTo_yes (X := X) (q := q) hlt)
        have HN := Lib.hid (intoTo_no (X := X) (q := q) hlt)
        rw [hxk] at hx HY HN
        have y0 : wr.cell? ⟨b2, o2 + k * 3, none⟩ = some (.int .i64 x0) := by rw [hbr.cell (p := ⟨b2, o2 + k * 3, none⟩) hb2]; exact hx 0 _ rfl
        have y1 : wr.cell? ⟨b2, o2 + k * 3 + 1, none⟩ = some (.int .i64 x1) := by rw [hbr.cell (p := ⟨b2, o2 + k * 3 + 1, none⟩) hb2]; exact hx 1 _ rfl
        have y2 : wr.cell? ⟨b2, o2 + k * 3 + 2, none⟩ = some (.int .i64 x2) := by rw [hbr.cell (p := ⟨b2, o2 + k * 3 + 2, none⟩) hb2]; exact hx 2 _ rfl
        have hll : (intoTo X q k).length < 1000000000 := by have := intoTo_len X q k; omega
        clear hx hxk
        by_cases hq : x2 = q
        · subst hq
          have HYY := Lib.hid (HY.out (by simp))
          go_wp2_with (at_builtin; refine push_row (row := rowA) rfl _ _ _ _ rfl Try.underlying31 (.agg #[.int .i64 0, .int .i64 0, .int .i64 0]) 24 infoA rfl (by decide) (by decide) rowA_len w4.heap.size _ _ _ (x0, x1, x2) #[.int .i64 x0, .int .i64 x1, .int .i64 x2] _ rfl (rowA_one _) rfl rfl (by exact hout) hll (by omega) ?_; intro v' w5 hown5 hbel5 hs5)
          go_roundw
          case rel => exact ⟨k + 1, by omega, by go_num, by rw [HYY.out]; exact hown5, hbel5 _ hbr⟩
          case measure => simp [intOf]; omega
        · have HNN := Lib.hid (HN.out (by simp [hq]))
          go_wp2
          go_roundw
          case rel => exact ⟨k + 1, by omega, by go_num, by rw [HNN.out]; exact hout, hbr⟩
          case measure => simp [intOf]; omega
      · obtain rfl : k = X.length := by omega
        go_wp2
        go_ret2
        exact ⟨_, by rw [HV.out]; rfl, by rw [HX.out]; exact hout.wide (by have := BB.size; omega) (Nat.le_refl _), BB.trans (hbr.mono BB.size)⟩
end Go.Proofs.Ytggffkklfdpmkaa
