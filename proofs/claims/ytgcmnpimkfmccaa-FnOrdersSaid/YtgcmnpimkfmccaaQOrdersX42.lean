/- The law OrdersX: what it rests on, part 42 of 48. -/
import Derived.Deep.RegionHeld3
import Derived.Deep.AppendLies
import Derived.Test.YtgcmnpimkfmccaaQOrdersX39
import Derived.Test.YtgcmnpimkfmccaaQOrdersX41
namespace Go.Proofs.Ytgcmnpimkfmccaa
open Go.ChangeShapes Go.WideShapes Go.ChangeAt Go.RowKit
set_option linter.unusedSimpArgs false
set_option linter.unusedVariables false
theorem quiet_r {P : Program} {f : FuncId} {args : Array Value} {w : World} {n : Nat} {v : Value} (h : Calls P f args (w.drewN n) fun e w' => e = .returned v ∧ w.drewN n = w') : Calls P f args (w.drewN n) fun e w'' => e = .returned v ∧ ∃ m, w'' = w.drewN m :=
  Calls.quiet_of_same (h.mono fun _ _ ⟨h1, h2⟩ => ⟨h1, h2.symm⟩)
set_option maxHeartbeats 8000000 in
set_option maxRecDepth 100000 in
theorem c_spec_SameRoutine (X : List Part2) (H : Int) (v1 v2 : Value) (w : World) (h1 : RdP w v1 X) (h2 : RdP w v2 X) :
    Calls Try.prog 16 #[.agg #[.int .i64 H, v1], .agg #[.int .i64 H, v2]] w fun e w' => e = .returned (.bool true) ∧ Below w.heap.size w w' := by
  obtain ⟨W0, hW0, AB, RB, B0⟩ := twoBox w 26 26 (.int .i64 H) v1 (.int .i64 H) v2
  have H1 := Lib.hid (h1.below B0)
  have H2 := Lib.hid (h2.below B0)
  obtain ⟨a1, c1, rfl, hl1, -⟩ := h1
  obtain ⟨a2, c2, rfl, hl2, -⟩ := h2
  obtain ⟨LX, hLX⟩ : ∃ LX, X.length = LX := ⟨_, rfl⟩
  have HLX := Lib.hid hLX
  rw [hLX] at hl1 AB RB hW0 H1 H2 ⊢
  clear hLX hl2
  obtain ⟨A, hA⟩ : ∃ A, w.heap.size = A := ⟨_, rfl⟩
  rw [hA] at AB RB
  have y0 := AB.c0
  have y1 := AB.c1
  have r0 := RB.c0
  have r1 := RB.c1
  have tH : (H != H) = false := by simp
  go_enter Try.func16, Try.ntmps16
  rw [← hA] at y0 y1 r0 r1
  clear hA
  go_wp2_with fail
  rw [← hW0]
  clear hW0
  go_loopw [5] (fun i wr => ∃ k : Nat, k ≤ LX ∧ i = .int .i64 k ∧ Below W0.heap.size W0 wr) (fun i _ => LX - (intOf i).toNat)
  case atStart => exact ⟨0, by omega, by go_num, Below.refl _ _⟩
  case round =>
    obtain ⟨k, hk, rfl, BR⟩ := hrel
    obtain ⟨wo, rfl⟩ : ∃ wo : World, wo = wr := ⟨_, rfl⟩
    replace y1 := keepc BR y1
    replace r1 := keepc BR r1
    by_cases hlt : k < LX
    · have hkX : k < X.length := by rw [HLX.out]; exact hlt
      have hin0 : (0 : Int) ≤ (k : Int) := Int.natCast_nonneg _
      have hin1 : (k : Int) < (LX : Int) := by omega
      obtain ⟨b1, o1, u1, rfl, z0, z1, hu1⟩ := rdP_at (H1.out.below BR) hkX
      obtain ⟨b2, o2, u2, rfl, x0, x1, hu2⟩ := rdP_at (H2.out.below BR) hkX
      obtain ⟨tm, htm⟩ : ∃ tm, timR X k = tm := ⟨_, rfl⟩
      rw [htm] at z1 x1
      have tT : (tm != tm) = false := by simp
      have hu1d : RdI wo.drew u1 (patR X k) := hu1
      have hu2d : RdI wo.drew u2 (patR X k) := hu2
      go_wp2_with fail
      go_region_held3 (fun w' => w'.cell? ⟨w.heap.size, 1, none⟩ = some (.slice (some ⟨b1, o1, none⟩) LX c1) ∧ w'.cell? ⟨w.heap.size + 1, 1, none⟩ = some (.slice (some ⟨b2, o2, none⟩) LX c2) ∧ w'.cell? ⟨b1, o1 + k * 2, none⟩ = some u1 ∧ w'.cell? ⟨b1, o1 + k * 2 + 1, none⟩ = some (.int .i64 tm) ∧ w'.cell? ⟨b2, o2 + k * 2, none⟩ = some u2 ∧ w'.cell? ⟨b2, o2 + k * 2 + 1, none⟩ = some (.int .i64 tm))
        (go_keep)
        ((go_at_call 53; refine (c_spec_l00Same _ _ _ _ _ hu1d hu2d).mono ?_; rintro e w7 ⟨rfl, hb7⟩; rw [show decide (patR X k = patR X k) = true by simp]; have hb7' := below_drew hb7; replace y1 := keepc hb7' y1; replace r1 := keepc hb7' r1; replace z0 := keepc hb7' z0; replace z1 := keepc hb7' z1; replace x0 := keepc hb7' x0; replace x1 := keepc hb7' x1))
      go_wp2
      go_roundw
      case rel => exact ⟨k + 1, by omega, by go_num, BR.tr hb7'⟩
      case measure => (simp [intOf] <;> omega)
    · have hkX : k = LX := by omega
      subst hkX
      go_wp2
      go_ret
      exact ⟨rfl, B0.tr BR⟩
theorem threeBox (w : World) (R S T : TypeId) (x y u v p q : Value) : ∃ W0, W0 = ((w.alloc (Obj.cells #[x, y] R)).alloc (Obj.cells #[u, v] S)).alloc (Obj.cells #[p, q] T) ∧ VBox W0 w.heap.size x y ∧ VBox W0 (w.heap.size + 1) u v ∧ VBox W0 (w.heap.size + 2) p q ∧ Below w.heap.size w W0 ∧ W0.heap.size = w.heap.size + 3 := by
  obtain ⟨W1, e1, A1, A2, B1⟩ := twoBox w R S x y u v
  have hs : W1.heap.size = w.heap.size + 2 := by rw [e1, World.size_alloc, World.size_alloc]
  have hb : Below W1.heap.size W1 (W1.alloc (Obj.cells #[p, q] T)) := (Below.refl _ _).al _
  have h := VBox.new W1 T p q
  rw [hs] at h
  rw [← e1]
  exact ⟨_, rfl, A1.below hb, A2.below hb, h, B1.tr hb, by rw [World.size_alloc, hs]⟩
def apC (h : Int) (X : List Part2) (p : Part2) : Int := bif validR h X && validPt h p then (bif propsP p.1 != propsP (patR X 0) then 6 else bif decide (8 ≤ X.length) then 5 else 0) else 1
def apH (h : Int) (X : List Part2) (p : Part2) : Int := bif apC h X p == 0 then h else 0
def apX (h : Int) (X : List Part2) (p : Part2) : List Part2 := bif apC h X p == 0 then X ++ [p] else []
theorem ap_no {h : Int} {X : List Part2} {p : Part2} {c : Int} (hc : apC h X p = c) (h0 : c ≠ 0) : Hid (apC h X p = c) ∧ Hid (apH h X p = 0) ∧ Hid (apX h X p = []) := by
  have e : (apC h X p == 0) = false := beq_eq_false_iff_ne.2 (by omega)
  exact ⟨hc, by unfold Hid apH; rw [e]; rfl, by unfold Hid apX; rw [e]; rfl⟩
theorem rdP_nil (w : World) : RdP w (.slice none 0 0) [] := ⟨none, 0, rfl, by simp, fun k hk => by simp at hk⟩
/-- parts in a row of the call's own, with a hole among its blocks that is written -/
theorem rdP_hole {lo hi G G2 : Nat} {w w1 w' : World} {v : Value} {X : List Part2} {Y : List (Value × Int)} (h1 : Y.length = X.length) (h2 : OwnRow 34 2 rowQ lo hi w v Y) (h3 : ∀ i, i < X.length → (Y.getD i qZ).2 = (X.getD i pZ).2 ∧ RdI w (Y.getD i qZ).1 (X.getD i pZ).1)
    (hv : ∀ b, v.ownBlock = some b → b ≠ G ∧ b ≠ G2) (hp : ∀ i, i < X.length → ∀ b, (Y.getD i qZ).1.ownBlock = some b → b ≠ G ∧ b ≠ G2) (hg : w.grownBy w1 (some G)) (hg2 : w1.grownBy w' (some G2)) : RdP w' v X := by
  obtain ⟨a, cap, e, hl, hc⟩ := h2.rd rowQ_len
  rw [h1] at e hl
  subst e
  refine ⟨a, cap, rfl, hl, fun k hk => ?_⟩
  have hkY : k < Y.length := by omega
  obtain ⟨b, off, ha, hx⟩ := hc k hkY
  obtain ⟨j1, j2⟩ := h3 k hk
  have j3 := hp k hk
  have eY : Y.getD k qZ = Y[k] := by simp [List.getD, hkY]
  have eX : X.getD k pZ = X[k] := by simp [List.getD, hk]
  rw [eY, eX] at j1 j2
  rw [eY] at j3
  have hb := hv b (by rw [ha]; rfl)
  have hc2 : ∀ {bl o : Nat} {x : Value}, w.cell? ⟨bl, o, none⟩ = some x → bl ≠ G ∧ bl ≠ G2 → w'.cell? ⟨bl, o, none⟩ = some x := fun h hn =>
    grown_c hg2 (grown_c hg h (by simpa using fun e => hn.1 e.symm)) (by simpa using fun e => hn.2 e.symm)
  refine ⟨b, off, Y[k].1, ha, ?_, ?_, ?_⟩
  · have h0 := hx 0 _ rfl
    rw [Nat.add_zero] at h0
    exact hc2 h0 hb
  · rw [← j1]; exact hc2 (hx 1 _ rfl) hb
  · obtain ⟨ad, cp, he, hl2, hcc⟩ := j2
    refine ⟨ad, cp, he, hl2, fun j hj => ?_⟩
    obtain ⟨bl, o, h5, h6⟩ := hcc j hj
    exact ⟨bl, o, h5, hc2 h6 (j3 bl (by rw [he, h5]; rfl))⟩
set_option maxHeartbeats 16000000 in
set_option maxRecDepth 100000 in
theorem c_spec_AppendPart (X : List Part2) (H : Int) (v : Value) (xs : List Int) (tm : Int) (u : Value) (w : World) (hr : RdP w v X) (hu : RdI w u xs) :
    Calls Try.prog 14 #[.agg #[.int .i64 H, v], .agg #[u, .int .i64 tm]] w fun e w' => ∃ z, e = .returned (.tuple #[.agg #[.int .i64 (apH H X (xs, tm)), z], .int .i64 (apC H X (xs, tm))]) ∧ RdP w' z (apX H X (xs, tm)) ∧ Below w.heap.size w w' := by
  obtain ⟨W0, hW0, AB, PB, RB, B00, hsz0⟩ := threeBox w 26 34 26 (.int .i64 H) v u (.int .i64 tm) (.int .i64 0) (.slice none 0 0)
  have hr0 := hr.below B00
  have hu0 := hu.below B00
  have HR := Lib.hid hr
  have HU := Lib.hid hu
  obtain ⟨av, cv, rfl, hvl, -⟩ := hr
  obtain ⟨au, cu, rfl, hul, -⟩ := hu
  obtain ⟨LX, hLX⟩ : ∃ LX, X.length = LX := ⟨_, rfl⟩
  have HLX := Lib.hid hLX
  rw [hLX] at HR hvl AB hW0 hr0 ⊢
  go_enter Try.func14, Try.ntmps14
  go_wp2_with fail
  rw [← hW0]
  clear hW0
  refine (c_spec_l19Ok X H _ _ _ hr0 AB.c0 AB.c1).mono ?_; rintro e w1 ⟨rfl, hb1⟩
  replace AB := AB.below hb1
  replace PB := PB.below hb1
  replace RB := RB.below hb1
  have hu1 := hu0.below hb1
  have hs1 := hb1.size
  have B1 := B00.tr hb1
  clear hr0 hu0 B00 hb1
  cases hv : validR H X
  · obtain ⟨HC, HH, HX⟩ := ap_no (h := H) (X := X) (p := (xs, tm)) (c := 1) (by unfold apC; rw [hv]; rfl) (by decide)
    obtain ⟨TZ, gz⟩ := RB.set (.int .i64 0) (.slice none 0 0)
    have BZ := B1.grown gz B1.size (fun n e => by simp only [Option.some.injEq] at e; omega)
    have r0 := RB.c0
    have r1 := RB.c1
    have rf0 := RB.f0
    have rf1 := RB.f1
    clear hv
    go_wp2
    have X0 := TZ.c0
    have X1 := TZ.c1
    refine bodyPost_ret (v := .tuple #[.agg #[.int .i64 0, .slice none 0 0], .int .i64 1]) (by simp [results, Try.results14, go_sem, X0, X1]) rfl ⟨_, by rw [HC.out, HH.out], by rw [HX.out]; exact rdP_nil _, BZ⟩
  have R := rout_ok hv
  have hLb := R.hl
  have HXB : Hid (∀ k, k < X.length → (patR X k).length ≤ 1000000) := fun k hk => by have := (validP_iff.1 (R.hv k hk)).1.2; omega
  have hV0 := Lib.hid (R.hv 0 (by omega))
  rw [hLX] at hLb
  have HVR := Lib.hid hv
  have a0 := AB.c0
  clear hv R hLX
  go_wp2_with fail
  refine (c_spec_l19Part xs tm H _ _ _ _ hu1 PB.c0 PB.c1).mono ?_; rintro e w2 ⟨rfl, hb2⟩
  replace AB := AB.below hb2
  replace PB := PB.below hb2
  replace RB := RB.below hb2
  have hs2 := hb2.size
  have B2 := B1.tr hb2
  clear hu1 B1 hb2 a0
  have r0 := RB.c0
  have r1 := RB.c1
  have rf0 := RB.f0
  have rf1 := RB.f1
  cases hp : validPt H (xs, tm)
  · obtain ⟨HC, HH, HX⟩ := ap_no (h := H) (X := X) (p := (xs, tm)) (c := 1) (by unfold apC; rw [HVR.out, hp]; rfl) (by decide)
    obtain ⟨TZ, gz⟩ := RB.set (.int .i64 0) (.slice none 0 0)
    have BZ := B2.grown gz B2.size (fun n e => by simp only [Option.some.injEq] at e; omega)
    clear hp
    go_wp2
    have X0 := TZ.c0
    have X1 := TZ.c1
    refine bodyPost_ret (v := .tuple #[.agg #[.int .i64 0, .slice none 0 0], .int .i64 1]) (by simp [results, Try.results14, go_sem, X0, X1]) rfl ⟨_, by rw [HC.out, HH.out], by rw [HX.out]; exact rdP_nil _, BZ⟩
  have hVP := Lib.hid (validPt_ok hp)
  have HVP := Lib.hid hp
  clear hp
  obtain ⟨b0, o0, u0, rfl, z0, z1, hu00⟩ := rdP_at (HR.out.below B2) (show 0 < X.length by have := HLX.out; omega)
  simp only [Nat.zero_mul, Nat.add_zero] at z0 z1
  have hL0 : 0 < LX := by omega
  have hL1 : (0 : Int) < (LX : Int) := by omega
  have a1 := AB.c1
  have p0 := PB.c0
  obtain ⟨P1, hP1⟩ : ∃ P1, propsP xs = P1 := ⟨_, rfl⟩
  obtain ⟨P2, hP2⟩ : ∃ P2, propsP (patR X 0) = P2 := ⟨_, rfl⟩
  have HQ1 : Hid (∀ n, Calls Try.prog 51 #[.slice au xs.length cu] (w2.drewN n) fun e w'' => e = .returned (.int .i64 P1) ∧ ∃ m, w'' = w2.drewN m) := fun n => quiet_r (by have h := c_spec_l02Props xs (.slice au xs.length cu) (w2.drewN n) (HU.out.below (B2.drN n)) hVP.out; rw [hP1] at h; exact h)
  have HQ2 : Hid (∀ n, Calls Try.prog 51 #[u0] (w2.drewN n) fun e w'' => e = .returned (.int .i64 P2) ∧ ∃ m, w'' = w2.drewN m) := fun n => quiet_r (by have h := c_spec_l02Props (patR X 0) u0 (w2.drewN n) hu00 hV0.out; rw [hP2] at h; exact h)
  have B2d := fun n : Nat => B2.drN n
  by_cases hpp : P1 = P2
  rotate_left
  · have tn : (P1 != P2) = true := by simpa using hpp
    obtain ⟨HC, HH, HX⟩ := ap_no (h := H) (X := X) (p := (xs, tm)) (c := 6) (by unfold apC; rw [HVR.out, HVP.out]; show (bif propsP xs != propsP (patR X 0) then (6 : Int) else _) = 6; rw [hP1, hP2, tn]; rfl) (by decide)
    clear hpp hP1 hP2
    go_wp2_with fail
    go_quiet ((go_at_call 51; first | exact HQ1.out _ | exact HQ2.out _))
    obtain ⟨TZ, gz⟩ := (RB.below ((Below.refl _ _).drN nq)).set (.int .i64 0) (.slice none 0 0)
    have BZ := (B2d nq).grown gz (B2d nq).size (fun n e => by simp only [Option.some.injEq] at e; omega)
    go_wp2
    have X0 := TZ.c0
    have X1 := TZ.c1
    refine bodyPost_ret (v := .tuple #[.agg #[.int .i64 0, .slice none 0 0], .int .i64 6]) (by simp [results, Try.results14, go_sem, X0, X1]) rfl ⟨_, by rw [HC.out, HH.out], by rw [HX.out]; exact rdP_nil _, BZ⟩
  subst hpp
  by_cases h8 : 8 ≤ LX
  · obtain ⟨HC, HH, HX⟩ := ap_no (h := H) (X := X) (p := (xs, tm)) (c := 5) (by unfold apC; rw [HVR.out, HVP.out]; show (bif propsP xs != propsP (patR X 0) then (6 : Int) else bif decide (8 ≤ X.length) then 5 else 0) = 5; rw [hP1, hP2, HLX.out, decide_eq_true h8]; simp) (by decide)
    have h8' : (8 : Int) ≤ (LX : Int) := by omega
    clear hP1 hP2
    go_wp2_with fail
    go_quiet ((go_at_call 51; first | exact HQ1.out _ | exact HQ2.out _))
    obtain ⟨TZ, gz⟩ := (RB.below ((Below.refl _ _).drN nq)).set (.int .i64 0) (.slice none 0 0)
    have BZ := (B2d nq).grown gz (B2d nq).size (fun n e => by simp only [Option.some.injEq] at e; omega)
    go_wp2
    have X0 := TZ.c0
    have X1 := TZ.c1
    refine bodyPost_ret (v := .tuple #[.agg #[.int .i64 0, .slice none 0 0], .int .i64 5]) (by simp [results, Try.results14, go_sem, X0, X1]) rfl ⟨_, by rw [HC.out, HH.out], by rw [HX.out]; exact rdP_nil _, BZ⟩
  have HC : Hid (apC H X (xs, tm) = 0) := by unfold Hid apC; rw [HVR.out, HVP.out]; show (bif propsP xs != propsP (patR X 0) then (6 : Int) else bif decide (8 ≤ X.length) then 5 else 0) = 0; rw [hP1, hP2, HLX.out, decide_eq_false h8]; simp
  have HH : Hid (apH H X (xs, tm) = H) := by unfold Hid apH; rw [HC.out]; rfl
  have HX : Hid (apX H X (xs, tm) = X ++ [(xs, tm)]) := by unfold Hid apX; rw [HC.out]; rfl
  have h8' : ¬ (8 : Int) ≤ (LX : Int) := by omega
  have hxl : xs.length ≤ 1000000 := by have h9 : 1 ≤ xs.length ∧ xs.length ≤ 12 := (validP_iff.1 hVP.out).1.2; omega
  clear hP1 hP2
  go_wp2_with fail
  go_quiet ((go_at_call 51; first | exact HQ1.out _ | exact HQ2.out _))
  replace AB := AB.below ((Below.refl _ _).drN nq)
  replace PB := PB.below ((Below.refl _ _).drN nq)
  replace RB := RB.below ((Below.refl _ _).drN nq)
  have B3 := B2d nq
  clear HQ1 HQ2 B2d B2 r0 r1 rf0 rf1 z0 z1 hu00 a1 p0
  replace hs2 : w1.heap.size ≤ (w2.drewN nq).heap.size := hs2
  generalize (w2.drewN nq) = w3 at *
  have a0 := AB.c0
  have a1 := AB.c1
  go_wp2_with fail
  refine (c_spec_l19Copy X H _ _ _ AB.c0 AB.c1 (HR.out.below B3) HXB.out (by have := HLX.out; omega)).mono ?_; rintro e w4 ⟨uo, rfl, hD, hb4⟩
  replace AB := AB.below hb4
  replace PB := PB.below hb4
  replace RB := RB.below hb4
  have B4 := B3.tr hb4
  have hs4 := hb4.size
  obtain ⟨ao, co, rfl, -, -⟩ := hD.rd
  rw [HLX.out]
  have TB := VBox.new w4 26 (.int .i64 H) (.slice ao LX co)
  have hb5 : Below w4.heap.size w4 (w4.alloc (Obj.cells #[.int .i64 H, .slice ao LX co] 26)) := (Below.refl _ _).al _
  clear a0 a1 hb4
  go_wp2_with fail
  replace AB := AB.below hb5
  replace PB := PB.below hb5
  replace RB := RB.below hb5
  have B5 := B4.tr hb5
  have hD5 := hD.below hb5
  rw [HLX.out] at hD5
  have hG5 := TB.lt
  obtain ⟨G, hG⟩ : ∃ G, w4.heap.size = G := ⟨_, rfl⟩
  rw [hG] at TB hD5 hs4 hG5 ⊢
  generalize (w4.alloc (Obj.cells #[.int .i64 H, .slice ao LX co] 26)) = wo at *
  clear hD hb5 B4 hG
  obtain ⟨Y, hY1, hY2, hY3⟩ := hD5
  have cod : wo.drew.cell? ⟨G, 1, none⟩ = some (.slice ao LX co) := TB.c1
  have f0d : wo.drew.cell? ⟨w.heap.size + 1, 0, none⟩ = some (.slice au xs.length cu) := PB.c0
  have f1d : wo.drew.cell? ⟨w.heap.size + 1, 0 + 1, none⟩ = some (.int .i64 tm) := PB.c1
  have hud0 := HU.out.below B5
  have hud : RdI wo.drew (.slice au xs.length cu) xs := hud0
  
  refine wp_region_noPanic ?_; refine wp_region_L (S := untilL 4 6 (fun w' => w'.cell? ⟨G, 1, none⟩ = some (.slice ao LX co)) (fun _ => True)) (by kernel_rfl) ?_
  (refine wpAnyL_take (S0 := (fun _ => True)) (i := 0) (q := 1) (v := ?lv1) rfl rfl (by kernel_rfl) (by kernel_rfl) (by kernel_rfl) (by kernel_rfl) (by kernel_rfl) (fun _ _ _ h => h) (fun _ _ _ _ => True.intro) (untilL_set (by decide) (by decide)) (Or.inl ⟨by rfl, ?lhy1⟩) ⟨fun _ => cod, fun _ => True.intro⟩ ?lrest1; case lhy1 => (intro w hSw; (try dsimp only at hSw); go_simp; (try with_reducible rfl)); (try simp only [Act.put, List.getElem_toArray, List.getElem_cons_zero, List.getElem_cons_succ, List.setIfInBounds_toArray, List.set_cons_zero, List.set_cons_succ])); (refine wpAnyL_take (S0 := (fun w' => w'.cell? ⟨G, 1, none⟩ = some (.slice ao LX co))) (i := 1) (q := 4) (v := ?lv2) rfl rfl (by kernel_rfl) (by kernel_rfl) (by kernel_rfl) (by kernel_rfl) (by kernel_rfl) (fun _ _ _ h => h) (fun _ _ hq hS => hS.1 hq) (untilL_set (by decide) (by decide)) (Or.inl ⟨by rfl, ?lhy2⟩) ⟨fun _ => cod, fun _ => True.intro⟩ ?lrest2; case lhy2 => (intro w hSw; (try dsimp only at hSw); go_simp; (try with_reducible rfl)); (try simp only [Act.put, List.getElem_toArray, List.getElem_cons_zero, List.getElem_cons_succ, List.setIfInBounds_toArray, List.set_cons_zero, List.set_cons_succ]))
  refine wpAnyL_ready (rs := [2]) (by kernel_rfl) (by simp) ?_; refine AllReadyL.cons (i := 2) rfl (fun K hK => ?_) AllReadyL.nil
  go_simp
  refine (c_spec_l19Own xs tm _ (w.heap.size + 1) 0 _ f0d f1d hud hxl).mono ?_; rintro e w7 ⟨u7, rfl, hou, hb7⟩
  have hb7' := below_drew hb7
  have hou' : OwnI1 wo.heap.size w7 u7 xs := hou
  have hs7 : wo.heap.size ≤ w7.heap.size := hb7'.size
  have TB7 := TB.below hb7'
  have RB7 := RB.below hb7'
  have B7 := B5.tr hb7'
  have hY2' := hY2.below hb7'
  have hY3' : ∀ i, i < X.length → (Y.getD i qZ).2 = (X.getD i pZ).2 ∧ RdI w7 (Y.getD i qZ).1 (X.getD i pZ).1 ∧ ∀ b, (Y.getD i qZ).1.ownBlock = some b → (w3.heap.size ≤ b ∧ b < G) ∧ Value.ownBlock (.slice ao LX co) ≠ some b := fun i hi => by
    obtain ⟨k1, k2, k3⟩ := hY3 i hi
    exact ⟨k1, k2.below hb7', k3⟩
  obtain ⟨ax, cx, rfl, -, -⟩ := hou'.rd
  have co7 := TB7.c1
  clear cod f0d f1d hud TB RB PB AB hou
  
  refine hK.out _ _ ⟨(fun _ => co7), (fun _ => True.intro)⟩ (fun hHeld => ?_); clear hK K; (try simp only [Act.put, List.getElem_toArray, List.getElem_cons_zero, List.getElem_cons_succ, List.setIfInBounds_toArray, List.set_cons_zero, List.set_cons_succ])
  refine wpAnyL_ready (rs := [3]) (by kernel_rfl) (by simp) ?_; refine AllReadyL.cons (i := 3) rfl (fun K hK => ?_) AllReadyL.nil
  go_simp
  have hb8 : Below w7.heap.size w7 (w7.alloc (Obj.cells #[.slice ax xs.length cx, .int .i64 tm] 34)) := (Below.refl _ _).al _
  have co8 := keepc hb8 co7
  
  refine hK.out _ _ ⟨(fun _ => co8), (fun _ => True.intro)⟩ (fun hHeld => ?_); clear hK K; (try simp only [Act.put, List.getElem_toArray, List.getElem_cons_zero, List.getElem_cons_succ, List.setIfInBounds_toArray, List.set_cons_zero, List.set_cons_succ])
  refine wpAnyL_ready (rs := [4]) (by kernel_rfl) (by simp) ?_; refine AllReadyL.cons (i := 4) rfl (fun K hK => ?_) AllReadyL.nil
  refine step_push_row (row := rowQ) rfl _ _ _ _ rfl Try.underlying24 (.agg #[.slice none 0 0, .int .i64 0]) 32 infoQ rfl (by decide) (by decide) rowQ_len w3.heap.size G w7.heap.size (.slice ao LX co) Y (.slice ax xs.length cx, tm) #[.slice ax xs.length cx, .int .i64 tm] _ rfl (fun u hu => by simp only [rowQ, List.mem_cons, List.not_mem_nil, or_false] at hu; rcases hu with rfl | rfl <;> rfl) rfl rfl (heap_alloc_new w7 _) (hY2'.al _) (by have := HLX.out; omega) (by have := hb8.size; omega) ?_
  intro v' w' ho' hg' hat' hs'
  have hlv : ∀ n, Value.ownBlock (.slice ao LX co) = some n → n < G := fun n e => hY2'.2 n e
  have hlv2 : ∀ n, Value.ownBlock (.slice ao LX co) = some n → w3.heap.size ≤ n := fun n e => (World.ownsRow.lt hY2'.1 n e).1
  have TB' := (TB7.below hb8).grown hg' (fun e => by have := hlv G e; omega)
  have RB' := (RB7.below hb8).grown hg' (fun e => by have := hlv2 _ e; omega)
  have B' := (B7.tr hb8).grown hg' (B7.tr hb8).size (fun n e => by have := hlv2 n e; omega)
  have hs8 := hb8.size
  have hu8 : RdI w' (.slice ax xs.length cx) xs := by
    obtain ⟨ad, cap, he, hl, hc⟩ := hou'.rd.below hb8
    refine ⟨ad, cap, he, hl, fun j hj => ?_⟩
    obtain ⟨bl, off, ha, hcell⟩ := hc j hj
    have h9 := OwnI.gt hou' bl (by rw [he, ha]; rfl)
    exact ⟨bl, off, ha, grown_c hg' hcell (fun e => by have := hlv bl e; omega)⟩
  have hlenX : (X ++ [(xs, tm)]).length = LX + 1 := by simp [HLX.out]
  obtain ⟨a9, c9, hv9, -, -⟩ := ho'.rd rowQ_len
  have hL9 : (Y ++ [(Value.slice ax xs.length cx, tm)]).length = LX + 1 := by simp [hY1, HLX.out]
  rw [hL9] at hv9
  subst hv9
  obtain ⟨TZ, gz⟩ := TB'.set1 (.slice a9 (LX + 1) c9)
  have RZ := RB'.grown gz (by simp only [ne_eq, Option.some.injEq]; omega)
  have BZ := B'.grown gz B'.size (fun n e => by simp only [Option.some.injEq] at e; omega)
  have b0 := TB'.c0
  have b1 := TB'.c1
  have bf1 := TB'.f1
  
  refine hK.out _ _ ⟨(fun h => Bool.noConfusion (show true = false from h)), (fun _ => True.intro)⟩ (fun hHeld => ?_); clear hK K; (try simp only [Act.put, List.getElem_toArray, List.getElem_cons_zero, List.getElem_cons_succ, List.setIfInBounds_toArray, List.set_cons_zero, List.set_cons_succ])
  
  (refine wpAnyL_take (S0 := (fun _ => True)) (i := 5) (q := 6) (v := ?lv3) rfl rfl (by kernel_rfl) (by kernel_rfl) (by kernel_rfl) (by kernel_rfl) (by kernel_rfl) (fun _ _ _ h => h) (fun _ _ _ _ => True.intro) (untilL_set (by decide) (by decide)) (Or.inl ⟨by rfl, ?lhy3⟩) ⟨(fun h => Bool.noConfusion (show true = false from h)), fun _ => True.intro⟩ ?lrest3; case lhy3 => (intro w hSw; (try dsimp only at hSw); go_simp; (try with_reducible rfl)); (try simp only [Act.put, List.getElem_toArray, List.getElem_cons_zero, List.getElem_cons_succ, List.setIfInBounds_toArray, List.set_cons_zero, List.set_cons_succ]))
  refine wpAnyL_ready (rs := [6]) (by kernel_rfl) (by simp) ?_; refine AllReadyL.cons (i := 6) rfl (fun K hK => ?_) AllReadyL.nil
  go_simp
  refine hK.out _ _ ⟨(fun h => Bool.noConfusion (show true = false from h)), (fun h => Bool.noConfusion (show true = false from h))⟩ (fun hHeld => ?_); clear hK K; (try simp only [Act.put, List.getElem_toArray, List.getElem_cons_zero, List.getElem_cons_succ, List.setIfInBounds_toArray, List.set_cons_zero, List.set_cons_succ])
  refine wpAnyL_done (by kernel_rfl) ?_ _; refine NoPanic.normal ?_
  clear b0 b1 bf1
  obtain ⟨wz, hwz⟩ : ∃ wz, w'.setCell ⟨G, 1, none⟩ (.slice a9 (LX + 1) c9) = wz := ⟨_, rfl⟩
  rw [hwz] at TZ RZ BZ gz ⊢
  clear hwz
  have t0 := TZ.c0
  have t1 := TZ.c1
  have r0 := RZ.c0
  have r1 := RZ.c1
  have rf0 := RZ.f0
  have rf1 := RZ.f1
  obtain ⟨QZ, gq⟩ := RZ.set (.int .i64 H) (.slice a9 (LX + 1) c9)
  have BQ := BZ.grown gq BZ.size (fun n e => by simp only [Option.some.injEq] at e; omega)
  have DQ : RdP ((wz.setCell ⟨w.heap.size + 2, 0, none⟩ (.int .i64 H)).setCell ⟨w.heap.size + 2, 1, none⟩ (.slice a9 (LX + 1) c9)) (.slice a9 (LX + 1) c9) (X ++ [(xs, tm)]) := by
    refine rdP_hole (by simp [hY1]) ho' (fun i hi => ?_) (fun b e => ?_) (fun i hi => ?_) gz gq
    · rw [hlenX] at hi
      by_cases hil : i < X.length
      · have eY : (Y ++ [(Value.slice ax xs.length cx, tm)]).getD i qZ = Y.getD i qZ := by rw [List.getD_eq_getElem?_getD, List.getElem?_append_left (by omega), List.getD_eq_getElem?_getD]
        have eX : (X ++ [(xs, tm)]).getD i pZ = X.getD i pZ := by rw [List.getD_eq_getElem?_getD, List.getElem?_append_left hil, List.getD_eq_getElem?_getD]
        rw [eY, eX]
        obtain ⟨k1, k2, k3⟩ := hY3' i hil
        refine ⟨k1, ?_⟩
        obtain ⟨ad, cap, he, hl, hc⟩ := k2.below hb8
        refine ⟨ad, cap, he, hl, fun j hj => ?_⟩
        obtain ⟨bl, off, ha, hcell⟩ := hc j hj
        exact ⟨bl, off, ha, grown_c hg' hcell (fun e => (k3 bl (by rw [he, ha]; rfl)).2 e)⟩
      · obtain rfl : i = X.length := by have := HLX.out; omega
        have eY : (Y ++ [(Value.slice ax xs.length cx, tm)]).getD X.length qZ = (.slice ax xs.length cx, tm) := by rw [← hY1]; simp [List.getD]
        have eX : (X ++ [(xs, tm)]).getD X.length pZ = (xs, tm) := by simp [List.getD]
        rw [eY, eX]
        exact ⟨rfl, hu8⟩
    · rcases hat' with h | h
      · rw [h] at e; have := hlv b e; have := hlv2 b e; omega
      · rw [h] at e; simp only [Option.some.injEq] at e; omega
    · rw [hlenX] at hi
      by_cases hil : i < X.length
      · have eY : (Y ++ [(Value.slice ax xs.length cx, tm)]).getD i qZ = Y.getD i qZ := by rw [List.getD_eq_getElem?_getD, List.getElem?_append_left (by omega), List.getD_eq_getElem?_getD]
        rw [eY]
        intro b e
        have := ((hY3' i hil).2.2 b e).1
        omega
      · obtain rfl : i = X.length := by have := HLX.out; omega
        have eY : (Y ++ [(Value.slice ax xs.length cx, tm)]).getD X.length qZ = (.slice ax xs.length cx, tm) := by rw [← hY1]; simp [List.getD]
        rw [eY]
        intro b e
        have := OwnI.gt hou' b e
        omega
  go_wp2
  have X0 := QZ.c0
  have X1 := QZ.c1
  refine bodyPost_ret (v := .tuple #[.agg #[.int .i64 H, .slice a9 (LX + 1) c9], .int .i64 0]) (by simp [results, Try.results14, go_sem, X0, X1]) rfl ⟨_, by rw [HC.out, HH.out], by rw [HX.out]; exact DQ, BQ⟩
theorem step_push_rowsN {α : Type} {row : α → List Value} {sz : Nat} {P : Program} {ops : Array Oper} {o : Oper} {a : Act} {K : Act → World → Prop} {Q : Exit → Act → World → Prop} {Ep : Prop} (hgd : o.guard = none) (s x : Operand) (t e : TypeId)
    (ho : o.op = .call { callee := .builtin .append, args := #[s, x], argTypes := #[t, t] })
    (ht : P.underlying t = some (.slice e)) (z : Value) (bytes : Nat) (hinfo : (P.info? e).map (fun i => (i.zero, i.size, i.bytes)) = some (some z, sz, bytes)) (hzs : z.cells.size = sz) (hsz : 0 < sz) (hby : bytes ≤ 1000)
    (hrow : ∀ x, (row x).length = sz) (lo hi : Nat) (v u : Value) (xs ys : List α) (w0 : World) (hone : ∀ y ∈ ys, ∀ u ∈ row y, u.oneCell' = true) (hs : a.eval s = v) (hx : a.eval x = u)
    (hown : OwnRow e sz row lo hi w0 v xs) (hr : RdRow sz row w0 u ys) (hne : 0 < ys.length) (hlen : xs.length + ys.length < 1000000000) (hB : lo ≤ w0.heap.size)
    (h : ∀ v' w', OwnRow e sz row lo w'.heap.size w' v' (xs ++ ys) → w0.grownBy w' v.ownBlock → (v'.ownBlock = v.ownBlock ∨ v'.ownBlock = some w0.heap.size) → w0.heap.size ≤ w'.heap.size → K (a.put o.dst v') w') :
    if Region.wanted o (yielded ops a.tmps) = true then Oper.wp P o a w0 K Q else Ep := by
  obtain ⟨i0, hi0, hz0, hz1, hz2⟩ := info_parts hinfo
  have e1 : (xs ++ ys).length = xs.length + ys.length := by simp
  have e2 : (xs ++ ys).flatMap row = xs.flatMap row ++ ys.flatMap row := by simp
  have hyl : (ys.flatMap row).length = ys.length * sz := flat_len hrow ys
  obtain ⟨au, cu, rfl, hul, huc⟩ := hr
  obtain ⟨b, off, rfl, -⟩ := huc 0 hne
  refine step_append_lies (w := w0) hgd s x t ho lo e i0 z sz bytes ht hi0 hz0 hz1 hz2 hzs hsz v xs.length (xs.flatMap row) hs hown.1 ⟨b, off, none⟩ ys.length cu (ys.flatMap row) hx hyl ?_ ?_ hne ?_ ?_ hB _ rfl ?_
  · intro j u hu
    have hj : j < ys.length * sz := by have := (List.getElem?_eq_some_iff.1 hu).1; omega
    have hk : j / sz < ys.length := Nat.div_lt_of_lt_mul (by rw [Nat.mul_comm]; exact hj)
    have hc : j % sz < sz := Nat.mod_lt _ hsz
    have hjj : j / sz * sz + j % sz = j := by rw [Nat.mul_comm]; exact Nat.div_add_mod j sz
    obtain ⟨b', off', hb, hcell⟩ := huc (j / sz) hk
    cases hb
    have hg := flat_get hrow ys (j / sz) (j % sz) hk hc
    rw [hjj, hu] at hg
    have h2 := hcell (j % sz) u hg.symm
    rw [Go.WideShapes.add_plain]
    rw [Nat.add_assoc, hjj] at h2
    exact h2
  · intro u hu
    obtain ⟨y, hym, hy⟩ := List.mem_flatMap.1 hu
    exact hone y hym u hy
  · unfold maxLen; omega
  · have h1 : (xs.length + ys.length) * bytes ≤ 1000000000 * 1000 := Nat.mul_le_mul (by omega) hby
    omega
  · intro g' cap w' ho' hg hat hglt
    refine h _ w' ⟨?_, fun k hk => (World.ownsRow.lt ho' k hk).2⟩ hg ?_ hg.size
    · rw [e1, e2]; exact ho'
    · rcases hat with hat | hat
      · left; rw [hat]; rfl
      · right; rw [hat]; rfl
/-- the parts as values and numbers -/
theorem rdP_rows {w : World} {v : Value} {X : List Part2} (h : RdP w v X) : ∃ Y : List (Value × Int), Y.length = X.length ∧ RdRow 2 rowQ w v Y ∧ (∀ y ∈ Y, ∀ u ∈ rowQ y, u.oneCell' = true) ∧ ∀ i, i < X.length → (Y.getD i qZ).2 = (X.getD i pZ).2 ∧ RdI w (Y.getD i qZ).1 (X.getD i pZ).1 := by
  obtain ⟨a, cap, rfl, hl, hc⟩ := h
  have hF : ∀ k, ∃ u : Value, ∀ hk : k < X.length, ∃ b off, a = some ⟨b, off, none⟩ ∧ w.cell? ⟨b, off + k * 2, none⟩ = some u ∧ w.cell? ⟨b, off + k * 2 + 1, none⟩ = some (.int .i64 X[k].2) ∧ RdI w u X[k].1 := fun k => by
    by_cases hk : k < X.length
    · obtain ⟨b, off, u, h1, h2, h3, h4⟩ := hc k hk
      exact ⟨u, fun _ => ⟨b, off, h1, h2, h3, h4⟩⟩
    · exact ⟨undef, fun h => absurd h hk⟩
  let F : Nat → Value := fun k => Classical.choose (hF k)
  have hFs : ∀ k (hk : k < X.length), ∃ b off, a = some ⟨b, off, none⟩ ∧ w.cell? ⟨b, off + k * 2, none⟩ = some (F k) ∧ w.cell? ⟨b, off + k * 2 + 1, none⟩ = some (.int .i64 X[k].2) ∧ RdI w (F k) X[k].1 := fun k hk => Classical.choose_spec (hF k) hk
  have hlenY : ((List.range X.length).map fun k => (F k, (X.getD k pZ).2)).length = X.length := by simp
  have hYk : ∀ k (hk : k < X.length), ((List.range X.length).map fun k => (F k, (X.getD k pZ).2)).getD k qZ = (F k, X[k].2) := fun k hk => by simp [List.getD, hk]
  refine ⟨(List.range X.length).map fun k => (F k, (X.getD k pZ).2), hlenY, ⟨a, cap, by rw [hlenY], by rw [hlenY]; exact hl, fun k hk => ?_⟩, fun y hy u hu => ?_, fun i hi => ?_⟩
  · rw [hlenY] at hk
    obtain ⟨b, off, h1, h2, h3, h4⟩ := hFs k hk
    refine ⟨b, off, h1, fun j v hv => ?_⟩
    have e : ((List.range X.length).map fun k => (F k, (X.getD k pZ).2))[k]'(by rw [hlenY]; exact hk) = (F k, X[k].2) := by simp [List.getD, hk]
    rw [e] at hv
    match j, hv with
    | 0, hv => simp only [rowQ, List.getElem?_cons_zero, Option.some.injEq] at hv; subst hv; exact h2
    | 1, hv => simp only [rowQ, List.getElem?_cons_succ, List.getElem?_cons_zero, Option.some.injEq] at hv; subst hv; exact h3
    | j + 2, hv => simp [rowQ] at hv
  · obtain ⟨k, hk, rfl⟩ := List.mem_map.1 hy
    have hk' : k < X.length := by simpa using hk
    obtain ⟨b, off, h1, h2, h3, a', c', he, -⟩ := hFs k hk'
    simp only [rowQ, List.mem_cons, List.not_mem_nil, or_false] at hu
    rcases hu with rfl | rfl
    · rw [he]; rfl
    · rfl
  · rw [hYk i hi]
    obtain ⟨b, off, h1, h2, h3, h4⟩ := hFs i hi
    have eX : X.getD i pZ = X[i] := by simp [List.getD, hi]
    rw [eX]
    exact ⟨rfl, h4⟩
theorem rdP_of_row {w : World} {v : Value} {X : List Part2} {Y : List (Value × Int)} (h1 : Y.length = X.length) (h2 : RdRow 2 rowQ w v Y) (h3 : ∀ i, i < X.length → (Y.getD i qZ).2 = (X.getD i pZ).2 ∧ RdI w (Y.getD i qZ).1 (X.getD i pZ).1) : RdP w v X := by
  obtain ⟨a, cap, e, hl, hc⟩ := h2
  rw [h1] at e hl
  refine ⟨a, cap, e, hl, fun k hk => ?_⟩
  have hkY : k < Y.length := by omega
  obtain ⟨b, off, ha, hx⟩ := hc k hkY
  obtain ⟨j1, j2⟩ := h3 k hk
  have eY : Y.getD k qZ = Y[k] := by simp [List.getD, hkY]
  have eX : X.getD k pZ = X[k] := by simp [List.getD, hk]
  rw [eY, eX] at j1 j2
  refine ⟨b, off, Y[k].1, ha, ?_, ?_, j2⟩
  · have h0 := hx 0 _ rfl
    rw [Nat.add_zero] at h0; exact h0
  · rw [← j1]; exact hx 1 _ rfl
end Go.Proofs.Ytgcmnpimkfmccaa
