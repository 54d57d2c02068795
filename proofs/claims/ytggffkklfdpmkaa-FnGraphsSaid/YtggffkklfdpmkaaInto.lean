/- Contracts on the arcs into a state. -/
import Derived.Test.YtggffkklfdpmkaaIndex
import Derived.Test.YtggffkklfdpmkaaFarP
import Derived.Test.YtggffkklfdpmkaaLawA
namespace Go.Proofs.Ytggffkklfdpmkaa
open Go.ChangeShapes Go.WideShapes Go.ChangeAt Go.RowKit
set_option linter.unusedVariables false
theorem intoX_ok {h m : Int} (hv : validB h m = true) : intoX h m = intoTo (arcsL (maskL (popI m) h) h) (stateIdx h m) (arcsL (maskL (popI m) h) h).length := by
  unfold intoX intoTo
  rw [hv, cond_true, List.take_length]
set_option maxHeartbeats 4000000 in
set_option maxRecDepth 100000 in
theorem c_impl_ArcsInto (h m : Int) (w : World) :
    Calls Try.prog 24 #[.agg #[.int .i64 h, .int .i64 m]] w fun e w' => ∃ v, e = .returned (.tuple #[v, .int .i64 (validC h m)]) ∧ OwnA w.heap.size w'.heap.size w' v (intoX h m) ∧ Below w.heap.size w w' := by
  cases hv : validB h m
  · have HX : Hid (intoX h m = []) := by unfold Hid intoX; rw [hv]; rfl
    have HV : Hid (validC h m = 1) := by unfold Hid validC; rw [hv]; rfl
    have ht : (validC h m != 0) = true := by rw [HV.out]; rfl
    go_enter Try.func24, Try.ntmps24
    go_wp2_with (go_at_call 22; refine (c_impl_StateIndex _ _ _).mono ?_; rintro e w1 ⟨rfl, hb⟩; obtain ⟨hc, hf⟩ := bcell hb)
    go_ret2
    exact ⟨_, rfl, by rw [HX.out]; exact OwnRow.nil _ rfl, by (repeat (first | (with_reducible assumption) | (with_reducible exact Below.refl _ _) | (with_reducible refine Below.setCell ?_ (by first | (simp; done) | (simp; omega)) _) | (with_reducible refine Below.al ?_ _) | (with_reducible refine Below.dr ?_) | (with_reducible refine Below.drN ?_ _) | (with_reducible refine Below.tr ?_ (by with_reducible assumption))))⟩
  · have hk := valid_iff hv
    have HV : Hid (validC h m = 0) := by unfold Hid validC; rw [hv]; rfl
    have ht : (validC h m != 0) = false := by rw [HV.out]; rfl
    have HX := Lib.hid (intoX_ok hv)
    have hXl := arcs_len' (popI m) h hk.1
    have hh : 0 ≤ h ∧ h ≤ 10 := by omega
    have HK := Lib.hid hk
    have hmq : 0 ≤ m ∧ m < 2 ^ h.toNat := hk.2
    have hh1 : 1 ≤ h ∧ h ≤ 10 := hk.1
    clear hk hv
    go_enter Try.func24, Try.ntmps24
    go_wp2_with (go_at_call 22; refine (c_impl_StateIndex _ _ _).mono ?_; rintro e w1 ⟨rfl, hb⟩; obtain ⟨hc, hf⟩ := bcell hb)
    have hz1 : w.heap.size < w1.heap.size := Nat.lt_of_lt_of_le (by simp) hb.size
    have B1 : Below w.heap.size w w1 := by (repeat (first | (with_reducible assumption) | (with_reducible exact Below.refl _ _) | (with_reducible refine Below.setCell ?_ (by first | (simp; done) | (simp; omega)) _) | (with_reducible refine Below.al ?_ _) | (with_reducible refine Below.dr ?_) | (with_reducible refine Below.drN ?_ _) | (with_reducible refine Below.tr ?_ (by with_reducible assumption))))
    have k0 : w1.cell? ⟨w.heap.size, 0, none⟩ = some (.int .i64 h) := by go_simp
    have k1 : w1.cell? ⟨w.heap.size, 1, none⟩ = some (.int .i64 m) := by go_simp
    clear hc hf hb
    have hz1' : w.heap.size < (w1.alloc (Obj.cells #[] 41)).heap.size := by simp; omega
    have j0 : (w1.alloc (Obj.cells #[] 41)).cell? ⟨w.heap.size, 0, none⟩ = some (.int .i64 h) := by rw [World.cell?_alloc_past _ _ _ hz1]; exact k0
    have j1 : (w1.alloc (Obj.cells #[] 41)).cell? ⟨w.heap.size, 1, none⟩ = some (.int .i64 m) := by rw [World.cell?_alloc_past _ _ _ hz1]; exact k1
    go_wp2_with fail
    go_region_held3 (fun w' => w'.cell? ⟨w.heap.size, 0, none⟩ = some (.int .i64 h) ∧ w'.cell? ⟨w.heap.size, 1, none⟩ = some (.int .i64 m))
      (go_keep)
      (first
        | ((go_at_call 64; refine (c_impl_State_props h m _ hh hmq).mono ?_; rintro e w2 ⟨rfl, hb2⟩; have hb2' := below_drew hb2; have hz2 := Nat.lt_of_lt_of_le hz1' hb2'.size; have m0 := (hb2'.cell (p := ⟨w.heap.size, 0, none⟩) hz1').trans j0; have m1 := (hb2'.cell (p := ⟨w.heap.size, 1, none⟩) hz1').trans j1))
        | ((go_at_call 60; refine (c_impl_arcsOf (popI m) h _ hh1).mono ?_; rintro e w3 ⟨v3, rfl, ho3, hb3⟩; have hz3 := Nat.lt_of_lt_of_le hz2 hb3.size; have p0 := (hb3.cell (p := ⟨w.heap.size, 0, none⟩) hz2).trans m0; have p1 := (hb3.cell (p := ⟨w.heap.size, 1, none⟩) hz2).trans m1; have hr3 := OwnRow.rd rowA_len ho3; obtain ⟨a3, cap3, rfl, hl3, _⟩ := hr3)))
    have B3 : Below w.heap.size w w3 := by (repeat (first | (with_reducible assumption) | (with_reducible exact Below.refl _ _) | (with_reducible refine Below.setCell ?_ (by first | (simp; done) | (simp; omega)) _) | (with_reducible refine Below.al ?_ _) | (with_reducible refine Below.dr ?_) | (with_reducible refine Below.drN ?_ _) | (with_reducible refine Below.tr ?_ (by with_reducible assumption))))
    have hout0 : OwnA w1.heap.size (w1.heap.size + 1) w3 (.slice (some ⟨w1.heap.size, 0, none⟩) 0 0) ([] : List (Int × Int × Int)) := ((OwnRow.made (E := 41) (row := rowA) (sz := 3) (a := w1) (xs := []) rfl rfl (Nat.le_refl _)).below hb2').below hb3
    have hr3 := OwnRow.rd rowA_len ho3
    generalize hXn : arcsL (maskL (popI m) h) h = X at *
    generalize stateIdx h m = q at *
    have hsz12 : w1.heap.size + 1 ≤ w2.heap.size := by have := hb2'.size; simpa using this
    have hsz23 := hb3.size
    clear hXn hb2 hb2' hb3
    have hout3 := hout0.tight
    go_wp2
    go_loopw [6, 8, 24] (fun out _ i wr => ∃ k : Nat, k ≤ X.length ∧ i = .int .i64 k ∧ OwnA w1.heap.size wr.heap.size wr out (intoTo X q k) ∧ Below w.heap.size w wr ∧ Same w2.heap.size w3.heap.size w3 wr ∧ Hid (∀ b, out.ownBlock = some b → b < w2.heap.size ∨ w3.heap.size ≤ b)) (fun _ _ i _ => X.length - (intOf i).toNat)
    case atStart => exact ⟨0, by omega, rfl, by unfold intoTo; simpa using hout3, B3, Same.refl (Nat.le_refl _), fun b hb => Or.inl (by simp only [Value.ownBlock, Option.some.injEq] at hb; omega)⟩
    case round =>
      obtain ⟨k, hk, rfl, hout, hbr, hsm, hoff⟩ := hrel
      have hsm1 := hsm.1
      have hbr1 := hbr.size
      by_cases hlt : k < X.length
      · obtain ⟨_, _, he, _, hcell⟩ := hr3
        cases he
        obtain ⟨b2, o2, rfl, hx⟩ := hcell k hlt
        have hb2r : w2.heap.size ≤ b2 ∧ b2 < w3.heap.size := World.ownsRow.lt ho3.1 b2 rfl
        obtain ⟨⟨x0, x1, x2⟩, hxk⟩ : ∃ x, X[k] = x := ⟨_, rfl⟩
        have HY := Lib.hid (intoTo_yes (X := X) (q := q) hlt)
        have HN := Lib.hid (intoTo_no (X := X) (q := q) hlt)
        rw [hxk] at hx HY HN
        have y0 : wr.cell? ⟨b2, o2 + k * 3, none⟩ = some (.int .i64 x0) := by rw [hsm.cell hb2r.1 hb2r.2]; exact hx 0 _ rfl
        have y1 : wr.cell? ⟨b2, o2 + k * 3 + 1, none⟩ = some (.int .i64 x1) := by rw [hsm.cell hb2r.1 hb2r.2]; exact hx 1 _ rfl
        have y2 : wr.cell? ⟨b2, o2 + k * 3 + 2, none⟩ = some (.int .i64 x2) := by rw [hsm.cell hb2r.1 hb2r.2]; exact hx 2 _ rfl
        have hll : (intoTo X q k).length < 1000000000 := by have := intoTo_len X q k; omega
        clear hx hxk hcell
        by_cases hq : x2 = q
        · subst hq
          have HYY := Lib.hid (HY.out (by simp))
          go_wp2_with (at_builtin; refine push_row_at (row := rowA) rfl _ _ _ _ rfl Try.underlying31 (.agg #[.int .i64 0, .int .i64 0, .int .i64 0]) 24 infoA rfl (by decide) (by decide) rowA_len w1.heap.size _ _ _ (x0, x1, x2) #[.int .i64 x0, .int .i64 x1, .int .i64 x2] (wr.alloc (Obj.cells #[.int .i64 x0, .int .i64 x1, .int .i64 x2] 41)) rfl (rowA_one _) rfl (by rw [World.size_alloc]; rfl) (by exact hout.al _) hll (by rw [World.size_alloc]; omega) ?_; intro v' w5 hown5 hbel5 hs5 hg5 hat5)
          have hBa : Below w.heap.size w (wr.alloc (Obj.cells #[.int .i64 x0, .int .i64 x1, .int .i64 x2] 41)) := hbr.al _
          have hsa : (wr.alloc (Obj.cells #[.int .i64 x0, .int .i64 x1, .int .i64 x2] 41)).heap.size = wr.heap.size + 1 := World.size_alloc _ _
          go_roundw
          case rel => exact ⟨k + 1, by omega, by go_num, by rw [HYY.out]; exact hown5, hBa.grown hg5 hBa.size (fun q hq => by have := (World.ownsRow.lt hout.1 q hq).1; omega), (hsm.below (((Below.refl _ _).al _))).grown hg5 hoff.out, fun b hb => by
            rcases hat5 with he | he
            · exact hoff.out b (he.symm.trans hb)
            · rw [he] at hb; simp only [Option.some.injEq] at hb; right; omega⟩
          case measure => simp [intOf]; omega
        · have HNN := Lib.hid (HN.out (by simp [hq]))
          go_wp2
          go_roundw
          case rel => exact ⟨k + 1, by omega, by go_num, by rw [HNN.out]; exact (hout.al _).wide (Nat.le_refl _) (by simp), by (repeat (first | (with_reducible assumption) | (with_reducible exact Below.refl _ _) | (with_reducible refine Below.setCell ?_ (by first | (simp; done) | (simp; omega)) _) | (with_reducible refine Below.al ?_ _) | (with_reducible refine Below.dr ?_) | (with_reducible refine Below.drN ?_ _) | (with_reducible refine Below.tr ?_ (by with_reducible assumption)))), hsm.below (((Below.refl _ _).al _)), hoff⟩
          case measure => simp [intOf]; omega
      · obtain rfl : k = X.length := by omega
        go_wp2
        go_ret2
        exact ⟨_, by rw [HV.out]; rfl, by rw [HX.out]; exact hout.wide (by omega) (Nat.le_refl _), hbr⟩
end Go.Proofs.Ytggffkklfdpmkaa
