/- The law OrdersX: what it rests on, part 39 of 48. -/
import Derived.Test.YtgcmnpimkfmccaaQOrdersX25
import Derived.Test.YtgcmnpimkfmccaaQOrdersX37
namespace Go.Proofs.Ytgcmnpimkfmccaa
open Go.ChangeShapes Go.WideShapes Go.ChangeAt Go.RowKit
set_option linter.unusedSimpArgs false
set_option linter.unusedVariables false
theorem rdP_at {w : World} {a : Option Addr} {n cap : Nat} {X : List Part2} (h : RdP w (.slice a n cap) X) {k : Nat} (hk : k < X.length) : ∃ b off u, a = some ⟨b, off, none⟩ ∧ w.cell? ⟨b, off + k * 2, none⟩ = some u ∧ w.cell? ⟨b, off + k * 2 + 1, none⟩ = some (.int .i64 (timR X k)) ∧ RdI w u (patR X k) := by
  obtain ⟨a', cap', he, -, hc⟩ := h
  cases he
  obtain ⟨b, off, u, ha, h0, h1, hu⟩ := hc k hk
  refine ⟨b, off, u, ha, h0, ?_, ?_⟩
  · have : timR X k = X[k].2 := by unfold timR; simp [List.getD, hk]
    rw [this]; exact h1
  · have : patR X k = X[k].1 := by unfold patR; simp [List.getD, hk]
    rw [this]; exact hu
theorem take_snocP {X : List Part2} {k : Nat} (hk : k < X.length) : X.take (k + 1) = X.take k ++ [(patR X k, timR X k)] := by
  rw [List.take_add_one, List.getElem?_eq_getElem hk]
  have h1 : patR X k = X[k].1 := by unfold patR; simp [List.getD, hk]
  have h2 : timR X k = X[k].2 := by unfold timR; simp [List.getD, hk]
  rw [h1, h2]
  rfl
theorem rev_snocP {X : List Part2} {j : Nat} (hj : j < X.length) : (X.drop j).reverse = (X.drop (j + 1)).reverse ++ [(patR X j, timR X j)] := by
  rw [List.drop_eq_getElem_cons hj, List.reverse_cons]
  have h1 : patR X j = X[j].1 := by unfold patR; simp [List.getD, hj]
  have h2 : timR X j = X[j].2 := by unfold timR; simp [List.getD, hj]
  rw [h1, h2]
/-- two boxes of two values, one behind the other -/
theorem twoBox (w : World) (S T : TypeId) (x y u v : Value) : ∃ W0, W0 = (w.alloc (Obj.cells #[x, y] S)).alloc (Obj.cells #[u, v] T) ∧ VBox W0 w.heap.size x y ∧ VBox W0 (w.heap.size + 1) u v ∧ Below w.heap.size w W0 := by
  refine ⟨_, rfl, (VBox.new w S x y).below ((Below.refl _ _).al _), ?_, ((Below.refl _ _).al _).al _⟩
  have h := VBox.new (w.alloc (Obj.cells #[x, y] S)) T u v
  rw [World.size_alloc] at h
  exact h
def toH (h : Int) (X : List Part2) : Int := bif validR h X then h else 0
def trX (h : Int) (X : List Part2) : List Part2 := bif validR h X then X.reverse else []
set_option maxHeartbeats 16000000 in
set_option maxRecDepth 100000 in
theorem c_spec_l19Copy (X : List Part2) (H : Int) (v : Value) (A : Nat) (w : World) (c0 : w.cell? ⟨A, 0, none⟩ = some (.int .i64 H)) (c1 : w.cell? ⟨A, 1, none⟩ = some v) (hr : RdP w v X) (hXb : ∀ k, k < X.length → (patR X k).length ≤ 1000000) (hXl : X.length ≤ 1000) :
    Calls Try.prog 52 #[.pointer (some ⟨A, 0, none⟩)] w fun e w' => ∃ u, e = .returned (.agg #[.int .i64 H, u]) ∧ DrwP w.heap.size w'.heap.size w' u X ∧ Below w.heap.size w w' := by
  obtain ⟨w0, hw0, RB, TB, B0⟩ := twoBox w 26 26 (.int .i64 0) (.slice none 0 0) (.int .i64 H) (.slice none 0 0)
  have hb1 : Below w.heap.size w (w.alloc (Obj.cells #[.int .i64 0, .slice none 0 0] 26)) := (Below.refl _ _).al _
  have e0 := keepc hb1 c0
  have hA : A < w.heap.size := World.block_lt_of_cell? _ _ c0
  have hAn : ¬ w.heap.size = A := by omega
  have HR := Lib.hid hr
  have p0 := c0
  have p1 := c1
  obtain ⟨av, cv, rfl, hvl, -⟩ := hr
  have HXB := Lib.hid hXb
  obtain ⟨LX, hLX⟩ : ∃ LX, X.length = LX := ⟨_, rfl⟩
  have HLX := Lib.hid hLX
  rw [hLX] at HR p1 hvl c1 hXl
  clear hXb hLX
  go_enter Try.func52, Try.ntmps52
  go_wp2_with fail
  rw [← hw0]
  clear hw0 hb1 e0 c0 c1
  obtain ⟨G, hG⟩ : ∃ G, w.heap.size + 1 = G := ⟨_, rfl⟩
  rw [hG] at TB ⊢
  go_loopw [4] (fun i wr => ∃ (k : Nat) (u : Value), k ≤ LX ∧ i = .int .i64 k ∧ VBox wr G (.int .i64 H) u ∧ VBox wr w.heap.size (.int .i64 0) (.slice none 0 0) ∧ DrwP (G + 1) wr.heap.size wr u (X.take k) ∧ Below w.heap.size w wr) (fun i _ => LX - (intOf i).toNat)
  case atStart => exact ⟨0, _, by omega, by go_num, TB, RB, by simpa using DrwP.nil (G + 1) w0.heap.size w0, B0⟩
  case round =>
    obtain ⟨k, u, hk, rfl, TB, RB, hD, BR⟩ := hrel
    obtain ⟨wo, rfl⟩ : ∃ wo : World, wo = wr := ⟨_, rfl⟩
    have hGo := TB.lt
    have hs0 := BR.size
    have q0 := keepc BR p0
    have q1 := keepc BR p1
    have hin0 : (0 : Int) ≤ (k : Int) := Int.natCast_nonneg _
    obtain ⟨au, cu, hu, -⟩ := hD.rd
    obtain ⟨LZ, hLZ⟩ : ∃ LZ, (X.take k).length = LZ := ⟨_, rfl⟩
    rw [hLZ] at hu
    subst hu
    by_cases hlt : k < LX
    · have hkX : k < X.length := by rw [HLX.out]; exact hlt
      have hin1 : (k : Int) < (LX : Int) := by omega
      obtain ⟨b, off, us, rfl, z0, z1, hus⟩ := rdP_at (HR.out.below BR) hkX
      have hxb := HXB.out k hkX
      have HS := Lib.hid (take_snocP hkX)
      obtain ⟨xs, hxs⟩ : ∃ xs, patR X k = xs := ⟨_, rfl⟩
      obtain ⟨tm, htm⟩ : ∃ tm, timR X k = tm := ⟨_, rfl⟩
      rw [hxs] at hus hxb HS
      rw [htm] at z1 HS
      obtain ⟨Y, hY1, hY2, hY3⟩ := hD
      have cod : wo.drew.cell? ⟨G, 1, none⟩ = some (.slice au LZ cu) ∧ wo.drew.cell? ⟨A, 1, none⟩ = some (.slice (some ⟨b, off, none⟩) LX cv) := ⟨TB.c1, q1⟩
      have z0d : wo.drew.cell? ⟨b, off + k * 2, none⟩ = some us := z0
      have z1d : wo.drew.cell? ⟨b, off + k * 2 + 1, none⟩ = some (.int .i64 tm) := z1
      have husd : RdI wo.drew us xs := hus
      go_wp2_with fail
      
      refine wp_region_noPanic ?_; refine wp_region_L (S := untilL 10 12 (fun w' => w'.cell? ⟨G, 1, none⟩ = some (.slice au LZ cu)) (fun w' => w'.cell? ⟨A, 1, none⟩ = some (.slice (some ⟨b, off, none⟩) LX cv))) (by kernel_rfl) ?_
      (refine wpAnyL_take (S0 := (fun _ => True)) (i := 0) (q := 1) (v := ?lv1) rfl rfl (by kernel_rfl) (by kernel_rfl) (by kernel_rfl) (by kernel_rfl) (by kernel_rfl) (fun _ _ _ h => h) (fun _ _ _ _ => True.intro) (untilL_set (by decide) (by decide)) (Or.inl ⟨by rfl, ?lhy1⟩) ⟨fun _ => cod.1, fun _ => cod.2⟩ ?lrest1; case lhy1 => (intro w hSw; (try dsimp only at hSw); go_simp; (try with_reducible rfl)); (try simp only [Act.put, List.getElem_toArray, List.getElem_cons_zero, List.getElem_cons_succ, List.setIfInBounds_toArray, List.set_cons_zero, List.set_cons_succ])); (refine wpAnyL_take (S0 := (fun w' => w'.cell? ⟨G, 1, none⟩ = some (.slice au LZ cu))) (i := 1) (q := 10) (v := ?lv2) rfl rfl (by kernel_rfl) (by kernel_rfl) (by kernel_rfl) (by kernel_rfl) (by kernel_rfl) (fun _ _ _ h => h) (fun _ _ hq hS => hS.1 hq) (untilL_set (by decide) (by decide)) (Or.inl ⟨by rfl, ?lhy2⟩) ⟨fun _ => cod.1, fun _ => cod.2⟩ ?lrest2; case lhy2 => (intro w hSw; (try dsimp only at hSw); go_simp; (try with_reducible rfl)); (try simp only [Act.put, List.getElem_toArray, List.getElem_cons_zero, List.getElem_cons_succ, List.setIfInBounds_toArray, List.set_cons_zero, List.set_cons_succ])); (refine wpAnyL_take (S0 := (fun _ => True)) (i := 2) (q := 3) (v := ?lv3) rfl rfl (by kernel_rfl) (by kernel_rfl) (by kernel_rfl) (by kernel_rfl) (by kernel_rfl) (fun _ _ _ h => h) (fun _ _ _ _ => True.intro) (untilL_set (by decide) (by decide)) (Or.inl ⟨by rfl, ?lhy3⟩) ⟨fun _ => cod.1, fun _ => cod.2⟩ ?lrest3; case lhy3 => (intro w hSw; (try dsimp only at hSw); go_simp; (try with_reducible rfl)); (try simp only [Act.put, List.getElem_toArray, List.getElem_cons_zero, List.getElem_cons_succ, List.setIfInBounds_toArray, List.set_cons_zero, List.set_cons_succ])); (refine wpAnyL_take (S0 := (fun _ => True)) (i := 3) (q := 4) (v := ?lv4) rfl rfl (by kernel_rfl) (by kernel_rfl) (by kernel_rfl) (by kernel_rfl) (by kernel_rfl) (fun _ _ _ h => h) (fun _ _ _ _ => True.intro) (untilL_set (by decide) (by decide)) (Or.inl ⟨by rfl, ?lhy4⟩) ⟨fun _ => cod.1, fun _ => cod.2⟩ ?lrest4; case lhy4 => (intro w hSw; (try dsimp only at hSw); go_simp; (try with_reducible rfl)); (try simp only [Act.put, List.getElem_toArray, List.getElem_cons_zero, List.getElem_cons_succ, List.setIfInBounds_toArray, List.set_cons_zero, List.set_cons_succ])); (refine wpAnyL_take (S0 := (fun _ => True)) (i := 4) (q := 5) (v := ?lv5) rfl rfl (by kernel_rfl) (by kernel_rfl) (by kernel_rfl) (by kernel_rfl) (by kernel_rfl) (fun _ _ _ h => h) (fun _ _ _ _ => True.intro) (untilL_set (by decide) (by decide)) (Or.inl ⟨by rfl, ?lhy5⟩) ⟨fun _ => cod.1, fun _ => cod.2⟩ ?lrest5; case lhy5 => (intro w hSw; (try dsimp only at hSw); go_simp; (try with_reducible rfl)); (try simp only [Act.put, List.getElem_toArray, List.getElem_cons_zero, List.getElem_cons_succ, List.setIfInBounds_toArray, List.set_cons_zero, List.set_cons_succ])); (refine wpAnyL_take (S0 := (fun w' => w'.cell? ⟨A, 1, none⟩ = some (.slice (some ⟨b, off, none⟩) LX cv))) (i := 5) (q := 12) (v := ?lv6) rfl rfl (by kernel_rfl) (by kernel_rfl) (by kernel_rfl) (by kernel_rfl) (by kernel_rfl) (fun _ _ _ h => h) (fun _ _ hq hS => hS.2 hq) (untilL_set (by decide) (by decide)) (Or.inl ⟨by rfl, ?lhy6⟩) ⟨fun _ => cod.1, fun _ => cod.2⟩ ?lrest6; case lhy6 => (intro w hSw; (try dsimp only at hSw); go_simp; (try with_reducible rfl)); (try simp only [Act.put, List.getElem_toArray, List.getElem_cons_zero, List.getElem_cons_succ, List.setIfInBounds_toArray, List.set_cons_zero, List.set_cons_succ])); (refine wpAnyL_take (S0 := (fun _ => True)) (i := 6) (q := 7) (v := ?lv7) rfl rfl (by kernel_rfl) (by kernel_rfl) (by kernel_rfl) (by kernel_rfl) (by kernel_rfl) (fun _ _ _ h => h) (fun _ _ _ _ => True.intro) (untilL_set (by decide) (by decide)) (Or.inl ⟨by rfl, ?lhy7⟩) ⟨fun _ => cod.1, fun _ => cod.2⟩ ?lrest7; case lhy7 => (intro w hSw; (try dsimp only at hSw); go_simp; (try with_reducible rfl)); (try simp only [Act.put, List.getElem_toArray, List.getElem_cons_zero, List.getElem_cons_succ, List.setIfInBounds_toArray, List.set_cons_zero, List.set_cons_succ])); (refine wpAnyL_take (S0 := (fun _ => True)) (i := 7) (q := 8) (v := ?lv8) rfl rfl (by kernel_rfl) (by kernel_rfl) (by kernel_rfl) (by kernel_rfl) (by kernel_rfl) (fun _ _ _ h => h) (fun _ _ _ _ => True.intro) (untilL_set (by decide) (by decide)) (Or.inl ⟨by rfl, ?lhy8⟩) ⟨fun _ => cod.1, fun _ => cod.2⟩ ?lrest8; case lhy8 => (intro w hSw; (try dsimp only at hSw); go_simp; (try with_reducible rfl)); (try simp only [Act.put, List.getElem_toArray, List.getElem_cons_zero, List.getElem_cons_succ, List.setIfInBounds_toArray, List.set_cons_zero, List.set_cons_succ]))
      refine wpAnyL_ready (rs := [8]) (by kernel_rfl) (by simp) ?_; refine AllReadyL.cons (i := 8) rfl (fun K hK => ?_) AllReadyL.nil
      go_simp
      refine (c_spec_l19Own xs tm us b (off + k * 2) _ z0d z1d husd hxb).mono ?_; rintro e w7 ⟨u', rfl, hou, hb7⟩
      have hb7' := below_drew hb7
      have hou' : OwnI1 wo.heap.size w7 u' xs := hou
      have hs7 : wo.heap.size ≤ w7.heap.size := hb7'.size
      have TB7 := TB.below hb7'
      have RB7 := RB.below hb7'
      have B7 := BR.tr hb7'
      have hY2' := hY2.below hb7'
      have hY3' : ∀ i, i < (X.take k).length → (Y.getD i qZ).2 = ((X.take k).getD i pZ).2 ∧ RdI w7 (Y.getD i qZ).1 ((X.take k).getD i pZ).1 ∧ ∀ b, (Y.getD i qZ).1.ownBlock = some b → (G + 1 ≤ b ∧ b < wo.heap.size) ∧ Value.ownBlock (.slice au LZ cu) ≠ some b := fun i hi => by
        obtain ⟨k1, k2, k3⟩ := hY3 i hi
        exact ⟨k1, k2.below hb7', k3⟩
      obtain ⟨ax, cx, rfl, -, -⟩ := hou'.rd
      have co7 : w7.cell? ⟨G, 1, none⟩ = some (.slice au LZ cu) ∧ w7.cell? ⟨A, 1, none⟩ = some (.slice (some ⟨b, off, none⟩) LX cv) := ⟨TB7.c1, keepc hb7' q1⟩
      clear cod z0d z1d husd TB RB BR q0 q1 z0 z1 hus
      
      refine hK.out _ _ ⟨(fun _ => co7.1), (fun _ => co7.2)⟩ (fun hHeld => ?_); clear hK K; (try simp only [Act.put, List.getElem_toArray, List.getElem_cons_zero, List.getElem_cons_succ, List.setIfInBounds_toArray, List.set_cons_zero, List.set_cons_succ])
      refine wpAnyL_ready (rs := [9]) (by kernel_rfl) (by simp) ?_; refine AllReadyL.cons (i := 9) rfl (fun K hK => ?_) AllReadyL.nil
      go_simp
      have hb8 : Below w7.heap.size w7 (w7.alloc (Obj.cells #[.slice ax xs.length cx, .int .i64 tm] 34)) := (Below.refl _ _).al _
      have co8 : (w7.alloc (Obj.cells #[.slice ax xs.length cx, .int .i64 tm] 34)).cell? ⟨G, 1, none⟩ = some (.slice au LZ cu) ∧ (w7.alloc (Obj.cells #[.slice ax xs.length cx, .int .i64 tm] 34)).cell? ⟨A, 1, none⟩ = some (.slice (some ⟨b, off, none⟩) LX cv) := ⟨keepc hb8 co7.1, keepc hb8 co7.2⟩
      
      refine hK.out _ _ ⟨(fun _ => co8.1), (fun _ => co8.2)⟩ (fun hHeld => ?_); clear hK K; (try simp only [Act.put, List.getElem_toArray, List.getElem_cons_zero, List.getElem_cons_succ, List.setIfInBounds_toArray, List.set_cons_zero, List.set_cons_succ])
      refine wpAnyL_ready (rs := [10]) (by kernel_rfl) (by simp) ?_; refine AllReadyL.cons (i := 10) rfl (fun K hK => ?_) AllReadyL.nil
      refine step_push_row (row := rowQ) rfl _ _ _ _ rfl Try.underlying24 (.agg #[.slice none 0 0, .int .i64 0]) 32 infoQ rfl (by decide) (by decide) rowQ_len (G + 1) wo.heap.size w7.heap.size (.slice au LZ cu) Y (.slice ax xs.length cx, tm) #[.slice ax xs.length cx, .int .i64 tm] _ rfl (fun u hu => by simp only [rowQ, List.mem_cons, List.not_mem_nil, or_false] at hu; rcases hu with rfl | rfl <;> rfl) rfl rfl (heap_alloc_new w7 _) (hY2'.al _) (by have h9 := hY1; have h10 := List.length_take_le k X; omega) (by have := hb8.size; omega) ?_
      intro v' w' ho' hg' hat' hs'
      have hDn := DrwP.snoc hY1 hY3' (fun b e => hY2'.2 b e) ho' hb8 hg' hat' hou'.rd (fun b e => by have h1 := OwnI.gt hou' b e; have h2 := (World.ownsRow.lt hou' b e).2; omega) (by omega) (by omega)
      rw [← HS.out] at hDn
      have hlv : ∀ n, Value.ownBlock (.slice au LZ cu) = some n → G + 1 ≤ n := fun n e => (World.ownsRow.lt hY2'.1 n e).1
      have TB' := (TB7.below hb8).grown hg' (fun e => by have := hlv G e; omega)
      have RB' := (RB7.below hb8).grown hg' (fun e => by have := hlv _ e; omega)
      have B' := (B7.tr hb8).grown hg' (B7.tr hb8).size (fun n e => by have := hlv n e; omega)
      obtain ⟨a9, c9, hv9, -⟩ := hDn.rd
      obtain ⟨L9, hL9⟩ : ∃ L9, (X.take (k + 1)).length = L9 := ⟨_, rfl⟩
      rw [hL9] at hv9
      subst hv9
      obtain ⟨TZ, gz⟩ := TB'.set1 (.slice a9 L9 c9)
      have RZ := RB'.grown gz (by simp only [ne_eq, Option.some.injEq]; omega)
      have BZ := B'.grown gz B'.size (fun n e => by simp only [Option.some.injEq] at e; omega)
      have DZ := (hDn.upd (Upd.of_grown (lo := G) (hi := G + 1) gz (fun k hk => by simp only [Option.some.injEq] at hk; omega)) (Or.inr (by omega))).wide (Nat.le_refl _) gz.size
      have fB9 := keepc B' p1
      have b0 := TB'.c0
      have b1 := TB'.c1
      have bf1 := TB'.f1
      
      refine hK.out _ _ ⟨(fun h => Bool.noConfusion (show true = false from h)), (fun _ => fB9)⟩ (fun hHeld => ?_); clear hK K; (try simp only [Act.put, List.getElem_toArray, List.getElem_cons_zero, List.getElem_cons_succ, List.setIfInBounds_toArray, List.set_cons_zero, List.set_cons_succ])
      
      (refine wpAnyL_take (S0 := (fun _ => True)) (i := 11) (q := 12) (v := ?lv9) rfl rfl (by kernel_rfl) (by kernel_rfl) (by kernel_rfl) (by kernel_rfl) (by kernel_rfl) (fun _ _ _ h => h) (fun _ _ _ _ => True.intro) (untilL_set (by decide) (by decide)) (Or.inl ⟨by rfl, ?lhy9⟩) ⟨(fun h => Bool.noConfusion (show true = false from h)), fun _ => fB9⟩ ?lrest9; case lhy9 => (intro w hSw; (try dsimp only at hSw); go_simp; (try with_reducible rfl)); (try simp only [Act.put, List.getElem_toArray, List.getElem_cons_zero, List.getElem_cons_succ, List.setIfInBounds_toArray, List.set_cons_zero, List.set_cons_succ]))
      refine wpAnyL_ready (rs := [12]) (by kernel_rfl) (by simp) ?_; refine AllReadyL.cons (i := 12) rfl (fun K hK => ?_) AllReadyL.nil
      go_simp
      refine hK.out _ _ ⟨(fun h => Bool.noConfusion (show true = false from h)), (fun h => Bool.noConfusion (show true = false from h))⟩ (fun hHeld => ?_); clear hK K; (try simp only [Act.put, List.getElem_toArray, List.getElem_cons_zero, List.getElem_cons_succ, List.setIfInBounds_toArray, List.set_cons_zero, List.set_cons_succ])
      refine wpAnyL_done (by kernel_rfl) ?_ _; refine NoPanic.normal ?_
      clear b0 b1 bf1
      generalize w'.setCell ⟨G, 1, none⟩ (.slice a9 L9 c9) = wz at *
      go_wp2
      go_roundw
      case rel => exact ⟨k + 1, _, by omega, by go_num, TZ, RZ, DZ, BZ⟩
      case measure => simp [intOf]; omega
    · have hkX : k = LX := by omega
      subst hkX
      have hfull : X.take k = X := by rw [← HLX.out, List.take_length]
      rw [hfull] at hD
      have t0 := TB.c0
      have t1 := TB.c1
      have r0 := RB.c0
      have r1 := RB.c1
      have rf0 := RB.f0
      have rf1 := RB.f1
      obtain ⟨TZ, gz⟩ := RB.set (.int .i64 H) (.slice au LZ cu)
      have BZ := BR.grown gz BR.size (fun n e => by simp only [Option.some.injEq] at e; omega)
      have DZ := ((hD.upd (Upd.of_grown (lo := w.heap.size) (hi := w.heap.size + 1) gz (fun k hk => by simp only [Option.some.injEq] at hk; omega)) (Or.inr (by omega))).wide (show w.heap.size ≤ G + 1 by omega) gz.size)
      go_wp2
      have X0 := TZ.c0
      have X1 := TZ.c1
      exact bodyPost_ret (v := .agg #[.int .i64 H, .slice au LZ cu]) (by simp [results, Try.results52, go_sem, X0, X1]) rfl ⟨_, rfl, DZ, BZ⟩
set_option maxHeartbeats 16000000 in
set_option maxRecDepth 100000 in
theorem c_impl_Routine_copied (X : List Part2) (H : Int) (v : Value) (w : World) (hr : RdP w v X) (hXb : ∀ k, k < X.length → (patR X k).length ≤ 1000000) (hXl : X.length ≤ 1000) :
    Calls Try.prog 43 #[.agg #[.int .i64 H, v]] w fun e w' => ∃ u, e = .returned (.agg #[.int .i64 H, u]) ∧ DrwP w.heap.size w'.heap.size w' u X ∧ Below w.heap.size w w' := by
  obtain ⟨W0, hW0, AB, RB, B00⟩ := twoBox w 26 26 (.int .i64 H) v (.int .i64 0) (.slice none 0 0)
  have e0 := AB.c0
  have hsz0 : W0.heap.size = w.heap.size + 2 := by rw [hW0, World.size_alloc, World.size_alloc]
  have TB := VBox.new W0 26 (.int .i64 H) (.slice none 0 0)
  rw [hsz0] at TB
  have B01 : Below W0.heap.size W0 (W0.alloc (Obj.cells #[.int .i64 H, .slice none 0 0] 26)) := (Below.refl _ _).al _
  have HR := Lib.hid hr
  obtain ⟨av, cv, rfl, hvl, -⟩ := hr
  have HXB := Lib.hid hXb
  obtain ⟨LX, hLX⟩ : ∃ LX, X.length = LX := ⟨_, rfl⟩
  have HLX := Lib.hid hLX
  rw [hLX] at HR hvl AB hW0 hXl ⊢
  clear hXb hLX
  go_enter Try.func43, Try.ntmps43
  go_wp2_with fail
  rw [← hW0]
  clear hW0 e0
  replace AB := AB.below B01
  replace RB := RB.below B01
  have B0 := B00.tr B01
  generalize (W0.alloc (Obj.cells #[.int .i64 H, .slice none 0 0] 26)) = w0 at *
  clear B00 B01 hsz0
  obtain ⟨G, hG⟩ : ∃ G, w.heap.size + 2 = G := ⟨_, rfl⟩
  rw [hG] at TB ⊢
  go_loopw [12] (fun i wr => ∃ (k : Nat) (u : Value), k ≤ LX ∧ i = .int .i64 k ∧ VBox wr G (.int .i64 H) u ∧ VBox wr (w.heap.size + 1) (.int .i64 0) (.slice none 0 0) ∧ DrwP (G + 1) wr.heap.size wr u (X.take k) ∧ Below w.heap.size w wr) (fun i _ => LX - (intOf i).toNat)
  case atStart => exact ⟨0, _, by omega, by go_num, TB, RB, by simpa using DrwP.nil (G + 1) w0.heap.size w0, B0⟩
  case round =>
    obtain ⟨k, u, hk, rfl, TB, RB, hD, BR⟩ := hrel
    obtain ⟨wo, rfl⟩ : ∃ wo : World, wo = wr := ⟨_, rfl⟩
    have hGo := TB.lt
    have hs0 := BR.size
    have hin0 : (0 : Int) ≤ (k : Int) := Int.natCast_nonneg _
    obtain ⟨au, cu, hu, -⟩ := hD.rd
    obtain ⟨LZ, hLZ⟩ : ∃ LZ, (X.take k).length = LZ := ⟨_, rfl⟩
    rw [hLZ] at hu
    subst hu
    by_cases hlt : k < LX
    · have hkX : k < X.length := by rw [HLX.out]; exact hlt
      have hin1 : (k : Int) < (LX : Int) := by omega
      obtain ⟨b, off, us, rfl, z0, z1, hus⟩ := rdP_at (HR.out.below BR) hkX
      have hxb := HXB.out k hkX
      have HS := Lib.hid (take_snocP hkX)
      obtain ⟨xs, hxs⟩ : ∃ xs, patR X k = xs := ⟨_, rfl⟩
      obtain ⟨tm, htm⟩ : ∃ tm, timR X k = tm := ⟨_, rfl⟩
      rw [hxs] at hus hxb HS
      rw [htm] at z1 HS
      obtain ⟨Y, hY1, hY2, hY3⟩ := hD
      have hus2 := hus
      obtain ⟨ay, cy, rfl, -, -⟩ := hus2
      have EB := VBox.new wo 34 (.slice ay xs.length cy) (.int .i64 tm)
      have hbE : Below wo.heap.size wo (wo.alloc (Obj.cells #[.slice ay xs.length cy, .int .i64 tm] 34)) := (Below.refl _ _).al _
      have hzb : b < wo.heap.size := World.block_lt_of_cell? _ _ z0
      go_wp2_with fail
      replace TB := TB.below hbE
      replace RB := RB.below hbE
      replace BR := BR.tr hbE
      replace hY2 := hY2.below hbE
      replace hY3 : ∀ i, i < (X.take k).length → (Y.getD i qZ).2 = ((X.take k).getD i pZ).2 ∧ RdI (wo.alloc (Obj.cells #[.slice ay xs.length cy, .int .i64 tm] 34)) (Y.getD i qZ).1 ((X.take k).getD i pZ).1 ∧ ∀ b, (Y.getD i qZ).1.ownBlock = some b → (G + 1 ≤ b ∧ b < wo.heap.size) ∧ Value.ownBlock (.slice au LZ cu) ≠ some b := fun i hi => by
        obtain ⟨k1, k2, k3⟩ := hY3 i hi
        exact ⟨k1, k2.below hbE, k3⟩
      replace hus := hus.below hbE
      have hEl := EB.lt
      obtain ⟨F, hF⟩ : ∃ F, wo.heap.size = F := ⟨_, rfl⟩
      rw [hF] at EB hY2 hY3 hGo hs0 hEl ⊢
      clear hbE z0 z1 hzb
      generalize (wo.alloc (Obj.cells #[.slice ay xs.length cy, .int .i64 tm] 34)) = wp at *
      have cod : wp.drew.cell? ⟨G, 1, none⟩ = some (.slice au LZ cu) ∧ wp.drew.cell? ⟨F, 0, none⟩ = some (.slice ay xs.length cy) ∧ wp.drew.cell? ⟨F, 1, none⟩ = some (.int .i64 tm) := ⟨TB.c1, EB.c0, EB.c1⟩
      have husd : RdI wp.drew (.slice ay xs.length cy) xs := hus
      
      refine wp_region_noPanic ?_; refine wp_region_L (S := untilL 9 11 (fun w' => w'.cell? ⟨G, 1, none⟩ = some (.slice au LZ cu)) (fun w' => w'.cell? ⟨F, 0, none⟩ = some (.slice ay xs.length cy) ∧ w'.cell? ⟨F, 1, none⟩ = some (.int .i64 tm))) (by kernel_rfl) ?_
      (refine wpAnyL_take (S0 := (fun _ => True)) (i := 0) (q := 1) (v := ?lv10) rfl rfl (by kernel_rfl) (by kernel_rfl) (by kernel_rfl) (by kernel_rfl) (by kernel_rfl) (fun _ _ _ h => h) (fun _ _ _ _ => True.intro) (untilL_set (by decide) (by decide)) (Or.inl ⟨by rfl, ?lhy10⟩) ⟨fun _ => cod.1, fun _ => cod.2⟩ ?lrest10; case lhy10 => (intro w hSw; (try dsimp only at hSw); go_simp; (try with_reducible rfl)); (try simp only [Act.put, List.getElem_toArray, List.getElem_cons_zero, List.getElem_cons_succ, List.setIfInBounds_toArray, List.set_cons_zero, List.set_cons_succ])); (refine wpAnyL_take (S0 := (fun w' => w'.cell? ⟨G, 1, none⟩ = some (.slice au LZ cu))) (i := 1) (q := 9) (v := ?lv11) rfl rfl (by kernel_rfl) (by kernel_rfl) (by kernel_rfl) (by kernel_rfl) (by kernel_rfl) (fun _ _ _ h => h) (fun _ _ hq hS => hS.1 hq) (untilL_set (by decide) (by decide)) (Or.inl ⟨by rfl, ?lhy11⟩) ⟨fun _ => cod.1, fun _ => cod.2⟩ ?lrest11; case lhy11 => (intro w hSw; (try dsimp only at hSw); go_simp; (try with_reducible rfl)); (try simp only [Act.put, List.getElem_toArray, List.getElem_cons_zero, List.getElem_cons_succ, List.setIfInBounds_toArray, List.set_cons_zero, List.set_cons_succ])); (refine wpAnyL_take (S0 := (fun _ => True)) (i := 2) (q := 3) (v := ?lv12) rfl rfl (by kernel_rfl) (by kernel_rfl) (by kernel_rfl) (by kernel_rfl) (by kernel_rfl) (fun _ _ _ h => h) (fun _ _ _ _ => True.intro) (untilL_set (by decide) (by decide)) (Or.inl ⟨by rfl, ?lhy12⟩) ⟨fun _ => cod.1, fun _ => cod.2⟩ ?lrest12; case lhy12 => (intro w hSw; (try dsimp only at hSw); go_simp; (try with_reducible rfl)); (try simp only [Act.put, List.getElem_toArray, List.getElem_cons_zero, List.getElem_cons_succ, List.setIfInBounds_toArray, List.set_cons_zero, List.set_cons_succ])); (refine wpAnyL_take (S0 := (fun w' => w'.cell? ⟨F, 0, none⟩ = some (.slice ay xs.length cy) ∧ w'.cell? ⟨F, 1, none⟩ = some (.int .i64 tm))) (i := 3) (q := 11) (v := ?lv13) rfl rfl (by kernel_rfl) (by kernel_rfl) (by kernel_rfl) (by kernel_rfl) (by kernel_rfl) (fun _ _ _ h => h) (fun _ _ hq hS => hS.2 hq) (untilL_set (by decide) (by decide)) (Or.inl ⟨by rfl, ?lhy13⟩) ⟨fun _ => cod.1, fun _ => cod.2⟩ ?lrest13; case lhy13 => (intro w hSw; (try dsimp only at hSw); go_simp; (try with_reducible rfl)); (try simp only [Act.put, List.getElem_toArray, List.getElem_cons_zero, List.getElem_cons_succ, List.setIfInBounds_toArray, List.set_cons_zero, List.set_cons_succ])); (refine wpAnyL_take (S0 := (fun _ => True)) (i := 5) (q := 6) (v := ?lv14) rfl rfl (by kernel_rfl) (by kernel_rfl) (by kernel_rfl) (by kernel_rfl) (by kernel_rfl) (fun _ _ _ h => h) (fun _ _ _ _ => True.intro) (untilL_set (by decide) (by decide)) (Or.inl ⟨by rfl, ?lhy14⟩) ⟨fun _ => cod.1, fun _ => cod.2⟩ ?lrest14; case lhy14 => (intro w hSw; (try dsimp only at hSw); go_simp; (try with_reducible rfl)); (try simp only [Act.put, List.getElem_toArray, List.getElem_cons_zero, List.getElem_cons_succ, List.setIfInBounds_toArray, List.set_cons_zero, List.set_cons_succ])); (refine wpAnyL_take (S0 := (fun w' => w'.cell? ⟨F, 0, none⟩ = some (.slice ay xs.length cy) ∧ w'.cell? ⟨F, 1, none⟩ = some (.int .i64 tm))) (i := 6) (q := 11) (v := ?lv15) rfl rfl (by kernel_rfl) (by kernel_rfl) (by kernel_rfl) (by kernel_rfl) (by kernel_rfl) (fun _ _ _ h => h) (fun _ _ hq hS => hS.2 hq) (untilL_set (by decide) (by decide)) (Or.inl ⟨by rfl, ?lhy15⟩) ⟨fun _ => cod.1, fun _ => cod.2⟩ ?lrest15; case lhy15 => (intro w hSw; (try dsimp only at hSw); go_simp; (try with_reducible rfl)); (try simp only [Act.put, List.getElem_toArray, List.getElem_cons_zero, List.getElem_cons_succ, List.setIfInBounds_toArray, List.set_cons_zero, List.set_cons_succ]))
      refine wpAnyL_ready (rs := [4]) (by kernel_rfl) (by simp) ?_; refine AllReadyL.cons (i := 4) rfl (fun K hK => ?_) AllReadyL.nil
      go_simp
      refine (c_impl_copyNumbers xs _ _ husd hxb).mono ?_; rintro e w7 ⟨u', rfl, hou, hb7⟩
      have hb7' := below_drew hb7
      have hou' : OwnI1 wp.heap.size w7 u' xs := hou
      have hs7 : wp.heap.size ≤ w7.heap.size := hb7'.size
      have TB7 := TB.below hb7'
      have RB7 := RB.below hb7'
      have B7 := BR.tr hb7'
      have hY2' := hY2.below hb7'
      have hY3' : ∀ i, i < (X.take k).length → (Y.getD i qZ).2 = ((X.take k).getD i pZ).2 ∧ RdI w7 (Y.getD i qZ).1 ((X.take k).getD i pZ).1 ∧ ∀ b, (Y.getD i qZ).1.ownBlock = some b → (G + 1 ≤ b ∧ b < F) ∧ Value.ownBlock (.slice au LZ cu) ≠ some b := fun i hi => by
        obtain ⟨k1, k2, k3⟩ := hY3 i hi
        exact ⟨k1, k2.below hb7', k3⟩
      obtain ⟨ax, cx, rfl, -, -⟩ := hou'.rd
      have EB7 := EB.below hb7'
      have co7 : w7.cell? ⟨G, 1, none⟩ = some (.slice au LZ cu) ∧ w7.cell? ⟨F, 0, none⟩ = some (.slice ay xs.length cy) ∧ w7.cell? ⟨F, 1, none⟩ = some (.int .i64 tm) := ⟨TB7.c1, EB7.c0, EB7.c1⟩
      clear cod husd TB RB BR hus EB
      
      refine hK.out _ _ ⟨(fun _ => co7.1), (fun _ => co7.2)⟩ (fun hHeld => ?_); clear hK K; (try simp only [Act.put, List.getElem_toArray, List.getElem_cons_zero, List.getElem_cons_succ, List.setIfInBounds_toArray, List.set_cons_zero, List.set_cons_succ])
      (refine wpAnyL_take (S0 := (fun _ => True)) (i := 7) (q := 8) (v := ?lv16) rfl rfl (by kernel_rfl) (by kernel_rfl) (by kernel_rfl) (by kernel_rfl) (by kernel_rfl) (fun _ _ _ h => h) (fun _ _ _ _ => True.intro) (untilL_set (by decide) (by decide)) (Or.inl ⟨by rfl, ?lhy16⟩) ⟨fun _ => co7.1, fun _ => co7.2⟩ ?lrest16; case lhy16 => (intro w hSw; (try dsimp only at hSw); go_simp; (try with_reducible rfl)); (try simp only [Act.put, List.getElem_toArray, List.getElem_cons_zero, List.getElem_cons_succ, List.setIfInBounds_toArray, List.set_cons_zero, List.set_cons_succ]))
      refine wpAnyL_ready (rs := [8]) (by kernel_rfl) (by simp) ?_; refine AllReadyL.cons (i := 8) rfl (fun K hK => ?_) AllReadyL.nil
      go_simp
      have hb8 : Below w7.heap.size w7 (w7.alloc (Obj.cells #[.slice ax xs.length cx, .int .i64 tm] 34)) := (Below.refl _ _).al _
      have co8 : (w7.alloc (Obj.cells #[.slice ax xs.length cx, .int .i64 tm] 34)).cell? ⟨G, 1, none⟩ = some (.slice au LZ cu) ∧ (w7.alloc (Obj.cells #[.slice ax xs.length cx, .int .i64 tm] 34)).cell? ⟨F, 0, none⟩ = some (.slice ay xs.length cy) ∧ (w7.alloc (Obj.cells #[.slice ax xs.length cx, .int .i64 tm] 34)).cell? ⟨F, 1, none⟩ = some (.int .i64 tm) := ⟨keepc hb8 co7.1, keepc hb8 co7.2.1, keepc hb8 co7.2.2⟩
      
      refine hK.out _ _ ⟨(fun _ => co8.1), (fun _ => co8.2)⟩ (fun hHeld => ?_); clear hK K; (try simp only [Act.put, List.getElem_toArray, List.getElem_cons_zero, List.getElem_cons_succ, List.setIfInBounds_toArray, List.set_cons_zero, List.set_cons_succ])
      refine wpAnyL_ready (rs := [9]) (by kernel_rfl) (by simp) ?_; refine AllReadyL.cons (i := 9) rfl (fun K hK => ?_) AllReadyL.nil
      refine step_push_row (row := rowQ) rfl _ _ _ _ rfl Try.underlying24 (.agg #[.slice none 0 0, .int .i64 0]) 32 infoQ rfl (by decide) (by decide) rowQ_len (G + 1) F w7.heap.size (.slice au LZ cu) Y (.slice ax xs.length cx, tm) #[.slice ax xs.length cx, .int .i64 tm] _ rfl (fun u hu => by simp only [rowQ, List.mem_cons, List.not_mem_nil, or_false] at hu; rcases hu with rfl | rfl <;> rfl) rfl rfl (heap_alloc_new w7 _) (hY2'.al _) (by have h9 := hY1; have h10 := List.length_take_le k X; omega) (by have := hb8.size; omega) ?_
      intro v' w' ho' hg' hat' hs'
      have hDn := DrwP.snoc hY1 hY3' (fun b e => hY2'.2 b e) ho' hb8 hg' hat' hou'.rd (fun b e => by have h1 := OwnI.gt hou' b e; have h2 := (World.ownsRow.lt hou' b e).2; omega) (by omega) (by omega)
      rw [← HS.out] at hDn
      have hlv : ∀ n, Value.ownBlock (.slice au LZ cu) = some n → G + 1 ≤ n := fun n e => (World.ownsRow.lt hY2'.1 n e).1
      have TB' := (TB7.below hb8).grown hg' (fun e => by have := hlv G e; omega)
      have RB' := (RB7.below hb8).grown hg' (fun e => by have := hlv _ e; omega)
      have B' := (B7.tr hb8).grown hg' (B7.tr hb8).size (fun n e => by have := hlv n e; omega)
      obtain ⟨a9, c9, hv9, -⟩ := hDn.rd
      obtain ⟨L9, hL9⟩ : ∃ L9, (X.take (k + 1)).length = L9 := ⟨_, rfl⟩
      rw [hL9] at hv9
      subst hv9
      obtain ⟨TZ, gz⟩ := TB'.set1 (.slice a9 L9 c9)
      have RZ := RB'.grown gz (by simp only [ne_eq, Option.some.injEq]; omega)
      have BZ := B'.grown gz B'.size (fun n e => by simp only [Option.some.injEq] at e; omega)
      have DZ := (hDn.upd (Upd.of_grown (lo := G) (hi := G + 1) gz (fun k hk => by simp only [Option.some.injEq] at hk; omega)) (Or.inr (by omega))).wide (Nat.le_refl _) gz.size
      have EB9 := (EB7.below hb8).grown hg' (fun e => by have := (hY2'.2 _ e); omega)
      have fB9 : w'.cell? ⟨F, 0, none⟩ = some (.slice ay xs.length cy) ∧ w'.cell? ⟨F, 1, none⟩ = some (.int .i64 tm) := ⟨EB9.c0, EB9.c1⟩
      have b0 := TB'.c0
      have b1 := TB'.c1
      have bf1 := TB'.f1
      
      refine hK.out _ _ ⟨(fun h => Bool.noConfusion (show true = false from h)), (fun _ => fB9)⟩ (fun hHeld => ?_); clear hK K; (try simp only [Act.put, List.getElem_toArray, List.getElem_cons_zero, List.getElem_cons_succ, List.setIfInBounds_toArray, List.set_cons_zero, List.set_cons_succ])
      
      (refine wpAnyL_take (S0 := (fun _ => True)) (i := 10) (q := 11) (v := ?lv17) rfl rfl (by kernel_rfl) (by kernel_rfl) (by kernel_rfl) (by kernel_rfl) (by kernel_rfl) (fun _ _ _ h => h) (fun _ _ _ _ => True.intro) (untilL_set (by decide) (by decide)) (Or.inl ⟨by rfl, ?lhy17⟩) ⟨(fun h => Bool.noConfusion (show true = false from h)), fun _ => fB9⟩ ?lrest17; case lhy17 => (intro w hSw; (try dsimp only at hSw); go_simp; (try with_reducible rfl)); (try simp only [Act.put, List.getElem_toArray, List.getElem_cons_zero, List.getElem_cons_succ, List.setIfInBounds_toArray, List.set_cons_zero, List.set_cons_succ]))
      refine wpAnyL_ready (rs := [11]) (by kernel_rfl) (by simp) ?_; refine AllReadyL.cons (i := 11) rfl (fun K hK => ?_) AllReadyL.nil
      go_simp
      refine hK.out _ _ ⟨(fun h => Bool.noConfusion (show true = false from h)), (fun h => Bool.noConfusion (show true = false from h))⟩ (fun hHeld => ?_); clear hK K; (try simp only [Act.put, List.getElem_toArray, List.getElem_cons_zero, List.getElem_cons_succ, List.setIfInBounds_toArray, List.set_cons_zero, List.set_cons_succ])
      refine wpAnyL_done (by kernel_rfl) ?_ _; refine NoPanic.normal ?_
      clear b0 b1 bf1
      generalize w'.setCell ⟨G, 1, none⟩ (.slice a9 L9 c9) = wz at *
      go_wp2
      go_roundw
      case rel => exact ⟨k + 1, _, by omega, by go_num, TZ, RZ, DZ, BZ⟩
      case measure => simp [intOf]; omega
    · have hkX : k = LX := by omega
      subst hkX
      have hfull : X.take k = X := by rw [← HLX.out, List.take_length]
      rw [hfull] at hD
      have t0 := TB.c0
      have t1 := TB.c1
      have r0 := RB.c0
      have r1 := RB.c1
      have rf0 := RB.f0
      have rf1 := RB.f1
      obtain ⟨TZ, gz⟩ := RB.set (.int .i64 H) (.slice au LZ cu)
      have BZ := BR.grown gz BR.size (fun n e => by simp only [Option.some.injEq] at e; omega)
      have DZ := ((hD.upd (Upd.of_grown (lo := w.heap.size + 1) (hi := w.heap.size + 2) gz (fun k hk => by simp only [Option.some.injEq] at hk; omega)) (Or.inr (by omega))).wide (show w.heap.size ≤ G + 1 by omega) gz.size)
      go_wp2
      have X0 := TZ.c0
      have X1 := TZ.c1
      exact bodyPost_ret (v := .agg #[.int .i64 H, .slice au LZ cu]) (by simp [results, Try.results43, go_sem, X0, X1]) rfl ⟨_, rfl, DZ, BZ⟩
set_option maxHeartbeats 16000000 in
set_option maxRecDepth 100000 in
theorem c_spec_TurnRoutine (X : List Part2) (H : Int) (v : Value) (w : World) (hr : RdP w v X) :
    Calls Try.prog 11 #[.agg #[.int .i64 H, v]] w fun e w' => ∃ u, e = .returned (.tuple #[.agg #[.int .i64 (toH H X), u], .int .i64 (rtC H X)]) ∧ RdP w' u (trX H X) ∧ Below w.heap.size w w' := by
  obtain ⟨W0, hW0, AB, RB, B00⟩ := twoBox w 26 26 (.int .i64 H) v (.int .i64 0) (.slice none 0 0)
  have hr0 := hr.below B00
  have hsz0 : W0.heap.size = w.heap.size + 2 := by rw [hW0, World.size_alloc, World.size_alloc]
  have HR := Lib.hid hr
  obtain ⟨av, cv, rfl, hvl, -⟩ := hr
  obtain ⟨LX, hLX⟩ : ∃ LX, X.length = LX := ⟨_, rfl⟩
  have HLX := Lib.hid hLX
  rw [hLX] at HR hvl AB hW0 hr0 ⊢
  go_enter Try.func11, Try.ntmps11
  go_wp2_with fail
  rw [← hW0]
  clear hW0
  refine (c_spec_l19Ok X H _ _ _ hr0 AB.c0 AB.c1).mono ?_; rintro e w1 ⟨rfl, hb1⟩
  replace AB := AB.below hb1
  replace RB := RB.below hb1
  have hs1 := hb1.size
  have B1 := B00.tr hb1
  clear hr0 B00 hb1
  cases hv : validR H X
  · obtain ⟨TZ, gz⟩ := RB.set (.int .i64 0) (.slice none 0 0)
    have BZ := B1.grown gz B1.size (fun n e => by simp only [Option.some.injEq] at e; omega)
    have HC : Hid (rtC H X = 1) := by unfold Hid rtC; rw [hv]; rfl
    have HH : Hid (toH H X = 0) := by unfold Hid toH; rw [hv]; rfl
    have HX : Hid (trX H X = []) := by unfold Hid trX; rw [hv]; rfl
    have r0 := RB.c0
    have r1 := RB.c1
    have rf0 := RB.f0
    have rf1 := RB.f1
    go_wp2
    have X0 := TZ.c0
    have X1 := TZ.c1
    refine bodyPost_ret (v := .tuple #[.agg #[.int .i64 0, .slice none 0 0], .int .i64 1]) (by simp [results, Try.results11, go_sem, X0, X1]) rfl ⟨_, by rw [HC.out, HH.out], by rw [HX.out]; exact ⟨none, 0, rfl, by simp, fun k hk => by simp at hk⟩, BZ⟩
  have R := rout_ok hv
  have hLb := R.hl
  have HXB : Hid (∀ k, k < X.length → (patR X k).length ≤ 1000000) := fun k hk => by have := (validP_iff.1 (R.hv k hk)).1.2; omega
  rw [hLX] at hLb
  have HC : Hid (rtC H X = 0) := by unfold Hid rtC; rw [hv]; rfl
  have HH : Hid (toH H X = H) := by unfold Hid toH; rw [hv]; rfl
  have HXX : Hid (trX H X = X.reverse) := by unfold Hid trX; rw [hv]; rfl
  clear hv R hLX
  have TB := VBox.new w1 26 (.int .i64 H) (.slice none 0 0)
  have B01 : Below w1.heap.size w1 (w1.alloc (Obj.cells #[.int .i64 H, .slice none 0 0] 26)) := (Below.refl _ _).al _
  have a0 := AB.c0
  have a1 := AB.c1
  have a1' := keepc B01 a1
  have hwl : IntKind.i64.wrap ((LX : Int) - 1) = (LX : Int) - 1 := IntWalk.i64_in _ (by omega)
  have hAl := AB.lt
  have hAn : ¬ w1.heap.size = w.heap.size := by omega
  go_wp2_with fail
  replace AB := AB.below B01
  replace RB := RB.below B01
  have B0 := B1.tr B01
  obtain ⟨G, hG⟩ : ∃ G, w1.heap.size = G := ⟨_, rfl⟩
  rw [hG] at TB hs1 hAl ⊢
  generalize (w1.alloc (Obj.cells #[.int .i64 H, .slice none 0 0] 26)) = w0 at *
  clear a0 a1 a1' B01 B1 hwl hAn
  go_loopw [5] (fun i wr => ∃ (k : Nat) (u : Value), k ≤ LX ∧ i = .int .i64 ((k : Int) - 1) ∧ VBox wr G (.int .i64 H) u ∧ VBox wr w.heap.size (.int .i64 H) (.slice av LX cv) ∧ VBox wr (w.heap.size + 1) (.int .i64 0) (.slice none 0 0) ∧ DrwP (G + 1) wr.heap.size wr u (X.drop k).reverse ∧ Below w.heap.size w wr) (fun i _ => (intOf i + 1).toNat)
  case atStart => exact ⟨LX, _, by omega, by go_num, TB, AB, RB, by rw [← HLX.out, List.drop_length]; exact DrwP.nil (G + 1) w0.heap.size w0, B0⟩
  case round =>
    clear AB RB TB
    obtain ⟨k, u, hk, rfl, TB, AB, RB, hD, BR⟩ := hrel
    obtain ⟨wo, rfl⟩ : ∃ wo : World, wo = wr := ⟨_, rfl⟩
    have hGo := TB.lt
    have hs0 := BR.size
    obtain ⟨au, cu, hu, -⟩ := hD.rd
    obtain ⟨LZ, hLZ⟩ : ∃ LZ, (X.drop k).reverse.length = LZ := ⟨_, rfl⟩
    rw [hLZ] at hu
    subst hu
    by_cases hlt : 0 < k
    · obtain ⟨m, rfl⟩ : ∃ m, k = m + 1 := ⟨k - 1, by omega⟩
      have hkX : m < X.length := by rw [HLX.out]; omega
      have hin0 : (0 : Int) ≤ (m : Int) := Int.natCast_nonneg _
      have hin1 : (m : Int) < (LX : Int) := by omega
      have hwm : IntKind.i64.wrap ((m : Int) - 1) = (m : Int) - 1 := IntWalk.i64_in _ (by omega)
      rw [show ((m + 1 : Nat) : Int) - 1 = (m : Int) by omega]
      obtain ⟨b, off, us, rfl, z0, z1, hus⟩ := rdP_at (HR.out.below BR) hkX
      have hxb := HXB.out m hkX
      have HS := Lib.hid (rev_snocP hkX)
      obtain ⟨xs, hxs⟩ : ∃ xs, patR X m = xs := ⟨_, rfl⟩
      obtain ⟨tm, htm⟩ : ∃ tm, timR X m = tm := ⟨_, rfl⟩
      rw [hxs] at hus hxb HS
      rw [htm] at z1 HS
      obtain ⟨Y, hY1, hY2, hY3⟩ := hD
      have cod : wo.drew.cell? ⟨G, 1, none⟩ = some (.slice au LZ cu) ∧ wo.drew.cell? ⟨w.heap.size, 1, none⟩ = some (.slice (some ⟨b, off, none⟩) LX cv) := ⟨TB.c1, AB.c1⟩
      have z0d : wo.drew.cell? ⟨b, off + m * 2, none⟩ = some us := z0
      have z1d : wo.drew.cell? ⟨b, off + m * 2 + 1, none⟩ = some (.int .i64 tm) := z1
      have husd : RdI wo.drew us xs := hus
      go_wp2_with fail
      
      refine wp_region_noPanic ?_; refine wp_region_L (S := untilL 8 10 (fun w' => w'.cell? ⟨G, 1, none⟩ = some (.slice au LZ cu)) (fun w' => w'.cell? ⟨w.heap.size, 1, none⟩ = some (.slice (some ⟨b, off, none⟩) LX cv))) (by kernel_rfl) ?_
      (refine wpAnyL_take (S0 := (fun _ => True)) (i := 0) (q := 1) (v := ?lv18) rfl rfl (by kernel_rfl) (by kernel_rfl) (by kernel_rfl) (by kernel_rfl) (by kernel_rfl) (fun _ _ _ h => h) (fun _ _ _ _ => True.intro) (untilL_set (by decide) (by decide)) (Or.inl ⟨by rfl, ?lhy18⟩) ⟨fun _ => cod.1, fun _ => cod.2⟩ ?lrest18; case lhy18 => (intro w hSw; (try dsimp only at hSw); go_simp; (try with_reducible rfl)); (try simp only [Act.put, List.getElem_toArray, List.getElem_cons_zero, List.getElem_cons_succ, List.setIfInBounds_toArray, List.set_cons_zero, List.set_cons_succ])); (refine wpAnyL_take (S0 := (fun w' => w'.cell? ⟨G, 1, none⟩ = some (.slice au LZ cu))) (i := 1) (q := 8) (v := ?lv19) rfl rfl (by kernel_rfl) (by kernel_rfl) (by kernel_rfl) (by kernel_rfl) (by kernel_rfl) (fun _ _ _ h => h) (fun _ _ hq hS => hS.1 hq) (untilL_set (by decide) (by decide)) (Or.inl ⟨by rfl, ?lhy19⟩) ⟨fun _ => cod.1, fun _ => cod.2⟩ ?lrest19; case lhy19 => (intro w hSw; (try dsimp only at hSw); go_simp; (try with_reducible rfl)); (try simp only [Act.put, List.getElem_toArray, List.getElem_cons_zero, List.getElem_cons_succ, List.setIfInBounds_toArray, List.set_cons_zero, List.set_cons_succ])); (refine wpAnyL_take (S0 := (fun _ => True)) (i := 2) (q := 3) (v := ?lv20) rfl rfl (by kernel_rfl) (by kernel_rfl) (by kernel_rfl) (by kernel_rfl) (by kernel_rfl) (fun _ _ _ h => h) (fun _ _ _ _ => True.intro) (untilL_set (by decide) (by decide)) (Or.inl ⟨by rfl, ?lhy20⟩) ⟨fun _ => cod.1, fun _ => cod.2⟩ ?lrest20; case lhy20 => (intro w hSw; (try dsimp only at hSw); go_simp; (try with_reducible rfl)); (try simp only [Act.put, List.getElem_toArray, List.getElem_cons_zero, List.getElem_cons_succ, List.setIfInBounds_toArray, List.set_cons_zero, List.set_cons_succ])); (refine wpAnyL_take (S0 := (fun w' => w'.cell? ⟨w.heap.size, 1, none⟩ = some (.slice (some ⟨b, off, none⟩) LX cv))) (i := 3) (q := 10) (v := ?lv21) rfl rfl (by kernel_rfl) (by kernel_rfl) (by kernel_rfl) (by kernel_rfl) (by kernel_rfl) (fun _ _ _ h => h) (fun _ _ hq hS => hS.2 hq) (untilL_set (by decide) (by decide)) (Or.inl ⟨by rfl, ?lhy21⟩) ⟨fun _ => cod.1, fun _ => cod.2⟩ ?lrest21; case lhy21 => (intro w hSw; (try dsimp only at hSw); go_simp; (try with_reducible rfl)); (try simp only [Act.put, List.getElem_toArray, List.getElem_cons_zero, List.getElem_cons_succ, List.setIfInBounds_toArray, List.set_cons_zero, List.set_cons_succ])); (refine wpAnyL_take (S0 := (fun _ => True)) (i := 4) (q := 5) (v := ?lv22) rfl rfl (by kernel_rfl) (by kernel_rfl) (by kernel_rfl) (by kernel_rfl) (by kernel_rfl) (fun _ _ _ h => h) (fun _ _ _ _ => True.intro) (untilL_set (by decide) (by decide)) (Or.inl ⟨by rfl, ?lhy22⟩) ⟨fun _ => cod.1, fun _ => cod.2⟩ ?lrest22; case lhy22 => (intro w hSw; (try dsimp only at hSw); go_simp; (try with_reducible rfl)); (try simp only [Act.put, List.getElem_toArray, List.getElem_cons_zero, List.getElem_cons_succ, List.setIfInBounds_toArray, List.set_cons_zero, List.set_cons_succ])); (refine wpAnyL_take (S0 := (fun _ => True)) (i := 5) (q := 6) (v := ?lv23) rfl rfl (by kernel_rfl) (by kernel_rfl) (by kernel_rfl) (by kernel_rfl) (by kernel_rfl) (fun _ _ _ h => h) (fun _ _ _ _ => True.intro) (untilL_set (by decide) (by decide)) (Or.inl ⟨by rfl, ?lhy23⟩) ⟨fun _ => cod.1, fun _ => cod.2⟩ ?lrest23; case lhy23 => (intro w hSw; (try dsimp only at hSw); go_simp; (try with_reducible rfl)); (try simp only [Act.put, List.getElem_toArray, List.getElem_cons_zero, List.getElem_cons_succ, List.setIfInBounds_toArray, List.set_cons_zero, List.set_cons_succ]))
      refine wpAnyL_ready (rs := [6]) (by kernel_rfl) (by simp) ?_; refine AllReadyL.cons (i := 6) rfl (fun K hK => ?_) AllReadyL.nil
      go_simp
      refine (c_spec_l19Own xs tm us b (off + m * 2) _ z0d z1d husd hxb).mono ?_; rintro e w7 ⟨u', rfl, hou, hb7⟩
      have hb7' := below_drew hb7
      have hou' : OwnI1 wo.heap.size w7 u' xs := hou
      have hs7 : wo.heap.size ≤ w7.heap.size := hb7'.size
      have TB7 := TB.below hb7'
      have RB7 := RB.below hb7'
      have B7 := BR.tr hb7'
      have hY2' := hY2.below hb7'
      have hY3' : ∀ i, i < (X.drop (m + 1)).reverse.length → (Y.getD i qZ).2 = ((X.drop (m + 1)).reverse.getD i pZ).2 ∧ RdI w7 (Y.getD i qZ).1 ((X.drop (m + 1)).reverse.getD i pZ).1 ∧ ∀ b, (Y.getD i qZ).1.ownBlock = some b → (G + 1 ≤ b ∧ b < wo.heap.size) ∧ Value.ownBlock (.slice au LZ cu) ≠ some b := fun i hi => by
        obtain ⟨k1, k2, k3⟩ := hY3 i hi
        exact ⟨k1, k2.below hb7', k3⟩
      obtain ⟨ax, cx, rfl, -, -⟩ := hou'.rd
      have co7 : w7.cell? ⟨G, 1, none⟩ = some (.slice au LZ cu) ∧ w7.cell? ⟨w.heap.size, 1, none⟩ = some (.slice (some ⟨b, off, none⟩) LX cv) := ⟨TB7.c1, (AB.below hb7').c1⟩
      have AB7 := AB.below hb7'
      clear cod z0d z1d husd TB RB BR z0 z1 hus AB
      
      refine hK.out _ _ ⟨(fun _ => co7.1), (fun _ => co7.2)⟩ (fun hHeld => ?_); clear hK K; (try simp only [Act.put, List.getElem_toArray, List.getElem_cons_zero, List.getElem_cons_succ, List.setIfInBounds_toArray, List.set_cons_zero, List.set_cons_succ])
      refine wpAnyL_ready (rs := [7]) (by kernel_rfl) (by simp) ?_; refine AllReadyL.cons (i := 7) rfl (fun K hK => ?_) AllReadyL.nil
      go_simp
      have hb8 : Below w7.heap.size w7 (w7.alloc (Obj.cells #[.slice ax xs.length cx, .int .i64 tm] 34)) := (Below.refl _ _).al _
      have co8 : (w7.alloc (Obj.cells #[.slice ax xs.length cx, .int .i64 tm] 34)).cell? ⟨G, 1, none⟩ = some (.slice au LZ cu) ∧ (w7.alloc (Obj.cells #[.slice ax xs.length cx, .int .i64 tm] 34)).cell? ⟨w.heap.size, 1, none⟩ = some (.slice (some ⟨b, off, none⟩) LX cv) := ⟨keepc hb8 co7.1, keepc hb8 co7.2⟩
      
      refine hK.out _ _ ⟨(fun _ => co8.1), (fun _ => co8.2)⟩ (fun hHeld => ?_); clear hK K; (try simp only [Act.put, List.getElem_toArray, List.getElem_cons_zero, List.getElem_cons_succ, List.setIfInBounds_toArray, List.set_cons_zero, List.set_cons_succ])
      refine wpAnyL_ready (rs := [8]) (by kernel_rfl) (by simp) ?_; refine AllReadyL.cons (i := 8) rfl (fun K hK => ?_) AllReadyL.nil
      refine step_push_row (row := rowQ) rfl _ _ _ _ rfl Try.underlying24 (.agg #[.slice none 0 0, .int .i64 0]) 32 infoQ rfl (by decide) (by decide) rowQ_len (G + 1) wo.heap.size w7.heap.size (.slice au LZ cu) Y (.slice ax xs.length cx, tm) #[.slice ax xs.length cx, .int .i64 tm] _ rfl (fun u hu => by simp only [rowQ, List.mem_cons, List.not_mem_nil, or_false] at hu; rcases hu with rfl | rfl <;> rfl) rfl rfl (heap_alloc_new w7 _) (hY2'.al _) (by have h9 := hY1; have h10 : (X.drop (m + 1)).reverse.length ≤ X.length := (by simp); have h11 := HLX.out; omega) (by have := hb8.size; omega) ?_
      intro v' w' ho' hg' hat' hs'
      have hDn := DrwP.snoc hY1 hY3' (fun b e => hY2'.2 b e) ho' hb8 hg' hat' hou'.rd (fun b e => by have h1 := OwnI.gt hou' b e; have h2 := (World.ownsRow.lt hou' b e).2; omega) (by omega) (by omega)
      rw [← HS.out] at hDn
      have hlv : ∀ n, Value.ownBlock (.slice au LZ cu) = some n → G + 1 ≤ n := fun n e => (World.ownsRow.lt hY2'.1 n e).1
      have TB' := (TB7.below hb8).grown hg' (fun e => by have := hlv G e; omega)
      have RB' := (RB7.below hb8).grown hg' (fun e => by have := hlv _ e; omega)
      have B' := (B7.tr hb8).grown hg' (B7.tr hb8).size (fun n e => by have := hlv n e; omega)
      obtain ⟨a9, c9, hv9, -⟩ := hDn.rd
      obtain ⟨L9, hL9⟩ : ∃ L9, (X.drop m).reverse.length = L9 := ⟨_, rfl⟩
      rw [hL9] at hv9
      subst hv9
      obtain ⟨TZ, gz⟩ := TB'.set1 (.slice a9 L9 c9)
      have RZ := RB'.grown gz (by simp only [ne_eq, Option.some.injEq]; omega)
      have AZ := ((AB7.below hb8).grown hg' (fun e => by have := hlv _ e; omega)).grown gz (by simp only [ne_eq, Option.some.injEq]; omega)
      have BZ := B'.grown gz B'.size (fun n e => by simp only [Option.some.injEq] at e; omega)
      have DZ := (hDn.upd (Upd.of_grown (lo := G) (hi := G + 1) gz (fun k hk => by simp only [Option.some.injEq] at hk; omega)) (Or.inr (by omega))).wide (Nat.le_refl _) gz.size
      have fB9 := ((AB7.below hb8).grown hg' (fun e => by have := hlv _ e; omega)).c1
      have b0 := TB'.c0
      have b1 := TB'.c1
      have bf1 := TB'.f1
      
      refine hK.out _ _ ⟨(fun h => Bool.noConfusion (show true = false from h)), (fun _ => fB9)⟩ (fun hHeld => ?_); clear hK K; (try simp only [Act.put, List.getElem_toArray, List.getElem_cons_zero, List.getElem_cons_succ, List.setIfInBounds_toArray, List.set_cons_zero, List.set_cons_succ])
      
      (refine wpAnyL_take (S0 := (fun _ => True)) (i := 9) (q := 10) (v := ?lv24) rfl rfl (by kernel_rfl) (by kernel_rfl) (by kernel_rfl) (by kernel_rfl) (by kernel_rfl) (fun _ _ _ h => h) (fun _ _ _ _ => True.intro) (untilL_set (by decide) (by decide)) (Or.inl ⟨by rfl, ?lhy24⟩) ⟨(fun h => Bool.noConfusion (show true = false from h)), fun _ => fB9⟩ ?lrest24; case lhy24 => (intro w hSw; (try dsimp only at hSw); go_simp; (try with_reducible rfl)); (try simp only [Act.put, List.getElem_toArray, List.getElem_cons_zero, List.getElem_cons_succ, List.setIfInBounds_toArray, List.set_cons_zero, List.set_cons_succ]))
      refine wpAnyL_ready (rs := [10]) (by kernel_rfl) (by simp) ?_; refine AllReadyL.cons (i := 10) rfl (fun K hK => ?_) AllReadyL.nil
      go_simp
      refine hK.out _ _ ⟨(fun h => Bool.noConfusion (show true = false from h)), (fun h => Bool.noConfusion (show true = false from h))⟩ (fun hHeld => ?_); clear hK K; (try simp only [Act.put, List.getElem_toArray, List.getElem_cons_zero, List.getElem_cons_succ, List.setIfInBounds_toArray, List.set_cons_zero, List.set_cons_succ])
      refine wpAnyL_done (by kernel_rfl) ?_ _; refine NoPanic.normal ?_
      clear b0 b1 bf1
      generalize w'.setCell ⟨G, 1, none⟩ (.slice a9 L9 c9) = wz at *
      go_wp2
      go_roundw
      case rel => exact ⟨m, _, by omega, by go_num, TZ, AZ, RZ, DZ, BZ⟩
      case measure => (simp [intOf] <;> omega)
    · have hk0 : k = 0 := by omega
      subst hk0
      rw [List.drop_zero] at hD
      have t0 := TB.c0
      have t1 := TB.c1
      have r0 := RB.c0
      have r1 := RB.c1
      have rf0 := RB.f0
      have rf1 := RB.f1
      obtain ⟨TZ, gz⟩ := RB.set (.int .i64 H) (.slice au LZ cu)
      have BZ := BR.grown gz BR.size (fun n e => by simp only [Option.some.injEq] at e; omega)
      have DZ := (hD.upd (Upd.of_grown (lo := w.heap.size + 1) (hi := w.heap.size + 2) gz (fun k hk => by simp only [Option.some.injEq] at hk; omega)) (Or.inr (by omega))).rd
      go_wp2
      have X0 := TZ.c0
      have X1 := TZ.c1
      refine bodyPost_ret (v := .tuple #[.agg #[.int .i64 H, .slice au LZ cu], .int .i64 0]) (by simp [results, Try.results11, go_sem, X0, X1]) rfl ⟨_, by rw [HC.out, HH.out], by rw [HXX.out]; exact DZ, BZ⟩
theorem flat_set2 (u : Value) (t : Int) : ∀ (Y : List (Value × Int)) (i : Nat), i < Y.length → ((Y.flatMap rowQ).set (i * 2) u).set (i * 2 + 1) (.int .i64 t) = (Y.set i (u, t)).flatMap rowQ
  | [], i, h => by simp at h
  | y :: Y, 0, h => by simp [rowQ]
  | y :: Y, i + 1, h => by
    have ih := flat_set2 u t Y i (by simpa using h)
    rw [show (i + 1) * 2 = i * 2 + 1 + 1 by omega]
    simp only [List.flatMap_cons, rowQ, List.cons_append, List.nil_append, List.set_cons_succ]
    rw [← ih]
section
variable {lo hi b n c : Nat} {w : World} {v : Value} {X : List Part2}
theorem DrwP.slice (h : DrwP lo hi w v X) (hX : 0 < X.length) : ∃ g c, v = .slice (some ⟨g, 0, none⟩) X.length c ∧ lo ≤ g ∧ g < hi := by
  obtain ⟨Y, h1, h2, h3⟩ := h
  have hlt := World.ownsRow.lt h2.1
  rcases h2.1.2 with ⟨hnil, hn⟩ | ⟨g, cap, cur, hve, hg, hh, hn, hm, hcs⟩
  · rw [← h1, hn] at hX; omega
  · subst hve
    rw [h1]
    exact ⟨g, cap, rfl, (hlt g rfl).1, h2.2 g rfl⟩
theorem DrwP.at (h : DrwP lo hi w (.slice (some ⟨b, 0, none⟩) n c) X) {i : Nat} (hi' : i < X.length) : ∃ u, w.cell? ⟨b, i * 2, none⟩ = some u ∧ w.cell? ⟨b, i * 2 + 1, none⟩ = some (.int .i64 (X.getD i pZ).2) ∧ w.frozen? ⟨b, i * 2, none⟩ = false ∧ w.frozen? ⟨b, i * 2 + 1, none⟩ = false ∧ RdI w u (X.getD i pZ).1 ∧ ∀ k, u.ownBlock = some k → (lo ≤ k ∧ k < hi) ∧ k ≠ b := by
  obtain ⟨Y, h1, h2, h3⟩ := h
  have hY : i < Y.length := by omega
  obtain ⟨a, cap, e, hl, hc⟩ := h2.rd rowQ_len
  cases e
  obtain ⟨b', off, ha, hx⟩ := hc i hY
  cases ha
  obtain ⟨j1, j2, j3⟩ := h3 i hi'
  have eY : Y.getD i qZ = Y[i] := by simp [List.getD, hY]
  rw [eY] at j1 j2 j3
  have f0 := (OwnRow.at rowQ_len h2 i 0 hY (by decide)).2
  have f1 := (OwnRow.at rowQ_len h2 i 1 hY (by decide)).2
  have c0 := hx 0 _ rfl
  have c1 := hx 1 _ rfl
  simp only [Nat.zero_add, Nat.add_zero] at c0 c1 f0 f1
  refine ⟨Y[i].1, c0, by rw [← j1]; exact c1, f0, f1, j2, fun k hk => ?_⟩
  obtain ⟨q1, q2⟩ := j3 k hk
  exact ⟨q1, fun e => q2 (by rw [e]; rfl)⟩
theorem getD_setP {α : Type} (L : List α) (a z : α) (i j : Nat) (hi : i < L.length) : (L.set i a).getD j z = if j = i then a else L.getD j z := by
  by_cases h : j = i
  · subst h; simp [List.getD, hi]
  · rw [if_neg h, List.getD_eq_getElem?_getD, List.getElem?_set_ne (by omega), List.getD_eq_getElem?_getD]
theorem DrwP.setAt (h : DrwP lo hi w (.slice (some ⟨b, 0, none⟩) n c) X) {i : Nat} (hi' : i < X.length) (u : Value) (ps : List Int) (t : Int) (hu : RdI w u ps) (hub : ∀ k, u.ownBlock = some k → (lo ≤ k ∧ k < hi) ∧ k ≠ b) :
    DrwP lo hi ((w.setCell ⟨b, i * 2, none⟩ u).setCell ⟨b, i * 2 + 1, none⟩ (.int .i64 t)) (.slice (some ⟨b, 0, none⟩) n c) (X.set i (ps, t)) := by
  obtain ⟨Y, h1, h2, h3⟩ := h
  have hY : i < Y.length := by omega
  obtain rfl : n = Y.length := by obtain ⟨a, c', e, -⟩ := h2.rd rowQ_len; cases e; rfl
  have s := World.ownsRow.stored h2.1 (i * 2) u
  have s2 := World.ownsRow.stored s.1 (i * 2 + 1) (.int .i64 t)
  refine ⟨Y.set i (u, t), by simp [h1], ⟨?_, h2.2⟩, fun j hj => ?_⟩
  · rw [List.length_set, ← flat_set2 u t Y i hY]; exact s2.1
  · rw [List.length_set] at hj
    rw [getD_setP _ _ _ _ _ hY, getD_setP _ _ _ _ _ hi']
    obtain ⟨j1, j2, j3⟩ := h3 j hj
    by_cases h0 : j = i
    · subst h0
      rw [if_pos rfl, if_pos rfl]
      exact ⟨rfl, rdI_set (rdI_set hu (fun k hk => (hub k hk).2)) (fun k hk => (hub k hk).2), fun k hk => ⟨(hub k hk).1, fun e => (hub k hk).2 (by cases e; rfl)⟩⟩
    · rw [if_neg h0, if_neg h0]
      exact ⟨j1, rdI_set (rdI_set j2 (fun k hk e => (j3 k hk).2 (by rw [e]; rfl))) (fun k hk e => (j3 k hk).2 (by rw [e]; rfl)), j3⟩
end
/-- the first and the last a parts changed for one another -/
def swpX (X : List Part2) (a : Nat) : List Part2 := (List.range X.length).map fun j => if j < a ∨ X.length - a ≤ j then X.getD (X.length - 1 - j) pZ else X.getD j pZ
theorem swp_len (X : List Part2) (a : Nat) : (swpX X a).length = X.length := by simp [swpX]
theorem swp_at (X : List Part2) (a j : Nat) (hj : j < X.length) : (swpX X a).getD j pZ = if j < a ∨ X.length - a ≤ j then X.getD (X.length - 1 - j) pZ else X.getD j pZ := by
  have h : j < (swpX X a).length := by rw [swp_len]; exact hj
  rw [List.getD_eq_getElem?_getD, List.getElem?_eq_getElem h]
  simp [swpX]
theorem ext_getD {α : Type} (z : α) {L M : List α} (hl : L.length = M.length) (h : ∀ i, i < L.length → L.getD i z = M.getD i z) : L = M := by
  apply List.ext_getElem hl
  intro i h1 h2
  have := h i h1
  rwa [List.getD_eq_getElem?_getD, List.getElem?_eq_getElem h1, List.getD_eq_getElem?_getD, List.getElem?_eq_getElem h2] at this
theorem swp_zero (X : List Part2) : swpX X 0 = X := ext_getD pZ (swp_len X 0) fun i hi => by
  rw [swp_len] at hi
  rw [swp_at _ _ _ hi, if_neg (by omega)]
theorem swp_succ {X : List Part2} {a : Nat} (h : 2 * a + 1 < X.length) : ((swpX X a).set a ((swpX X a).getD (X.length - 1 - a) pZ)).set (X.length - 1 - a) ((swpX X a).getD a pZ) = swpX X (a + 1) := ext_getD pZ (by simp [swp_len]) fun i hi => by
  have hi' : i < X.length := by simpa [swp_len] using hi
  rw [getD_setP _ _ _ _ _ (by simp [swp_len]; omega), getD_setP _ _ _ _ _ (by rw [swp_len]; omega), swp_at _ _ _ hi', swp_at _ _ _ (by omega), swp_at _ _ _ hi', swp_at _ _ _ (by omega)]
  by_cases h1 : i = X.length - 1 - a
  · subst h1
    rw [if_pos rfl, if_neg (by omega), if_pos (by omega), show X.length - 1 - (X.length - 1 - a) = a by omega]
  · rw [if_neg h1]
    by_cases h2 : i = a
    · subst h2
      rw [if_pos rfl, if_neg (by omega), if_pos (by omega)]
    · rw [if_neg h2]
      by_cases h3 : i < a ∨ X.length - a ≤ i
      · rw [if_pos h3, if_pos (by omega)]
      · rw [if_neg h3, if_neg (by omega)]
theorem swp_end {X : List Part2} {a : Nat} (h : X.length ≤ 2 * a + 1) : swpX X a = X.reverse := ext_getD pZ (by simp [swp_len]) fun i hi => by
  rw [swp_len] at hi
  rw [swp_at _ _ _ hi]
  have e : X.reverse.getD i pZ = X.getD (X.length - 1 - i) pZ := by
    rw [List.getD_eq_getElem?_getD, List.getElem?_reverse hi, List.getD_eq_getElem?_getD]
  rw [e]
  by_cases h1 : i < a ∨ X.length - a ≤ i
  · rw [if_pos h1]
  · rw [if_neg h1, show X.length - 1 - i = i by omega]
set_option maxHeartbeats 16000000 in
set_option maxRecDepth 100000 in
theorem c_impl_TurnRoutine (X : List Part2) (H : Int) (v : Value) (w : World) (hr : RdP w v X) :
    Calls Try.prog 10 #[.agg #[.int .i64 H, v]] w fun e w' => ∃ u, e = .returned (.tuple #[.agg #[.int .i64 (toH H X), u], .int .i64 (rtC H X)]) ∧ RdP w' u (trX H X) ∧ Below w.heap.size w w' := by
  obtain ⟨W0, hW0, AB, RB, B00⟩ := twoBox w 26 26 (.int .i64 H) v (.int .i64 0) (.slice none 0 0)
  have hr0 := hr.below B00
  have hsz0 : W0.heap.size = w.heap.size + 2 := by rw [hW0, World.size_alloc, World.size_alloc]
  obtain ⟨av, cv, rfl, hvl, -⟩ := hr
  obtain ⟨LX, hLX⟩ : ∃ LX, X.length = LX := ⟨_, rfl⟩
  have HLX := Lib.hid hLX
  rw [hLX] at hvl AB hW0 hr0 ⊢
  have a0 := AB.c0
  have a1 := AB.c1
  go_enter Try.func10, Try.ntmps10
  go_wp2_with fail
  rw [← hW0]
  clear hW0
  refine (c_impl_ValidRoutine X H _ _ hr0).mono ?_; rintro e w1 ⟨rfl, hb1⟩
  replace AB := AB.below hb1
  replace RB := RB.below hb1
  replace a0 := AB.c0
  replace a1 := AB.c1
  have hs1 := hb1.size
  have B1 := B00.tr hb1
  have hr1 := hr0.below hb1
  clear hr0 B00 hb1
  cases hv : validR H X
  · obtain ⟨TZ, gz⟩ := RB.set (.int .i64 0) (.slice none 0 0)
    have BZ := B1.grown gz B1.size (fun n e => by simp only [Option.some.injEq] at e; omega)
    have HC : Hid (rtC H X = 1) := by unfold Hid rtC; rw [hv]; rfl
    have HH : Hid (toH H X = 0) := by unfold Hid toH; rw [hv]; rfl
    have HX : Hid (trX H X = []) := by unfold Hid trX; rw [hv]; rfl
    have r0 := RB.c0
    have r1 := RB.c1
    have rf0 := RB.f0
    have rf1 := RB.f1
    go_wp2
    have X0 := TZ.c0
    have X1 := TZ.c1
    refine bodyPost_ret (v := .tuple #[.agg #[.int .i64 0, .slice none 0 0], .int .i64 1]) (by simp [results, Try.results10, go_sem, X0, X1]) rfl ⟨_, by rw [HC.out, HH.out], by rw [HX.out]; exact ⟨none, 0, rfl, by simp, fun k hk => by simp at hk⟩, BZ⟩
  have R := rout_ok hv
  have hLb := R.hl
  have hXB : ∀ k, k < X.length → (patR X k).length ≤ 1000000 := fun k hk => by have := (validP_iff.1 (R.hv k hk)).1.2; omega
  rw [hLX] at hLb
  have HC : Hid (rtC H X = 0) := by unfold Hid rtC; rw [hv]; rfl
  have HH : Hid (toH H X = H) := by unfold Hid toH; rw [hv]; rfl
  have HXX : Hid (trX H X = X.reverse) := by unfold Hid trX; rw [hv]; rfl
  clear hv R
  go_wp2_with fail
  refine (c_impl_Routine_copied X H _ _ hr1 hXB (by omega)).mono ?_; rintro e w2 ⟨u, rfl, hD, hb2⟩
  obtain ⟨g, c, rfl, hg1, hg2⟩ := hD.slice (by omega)
  rw [hLX] at hD ⊢
  replace RB := RB.below hb2
  have B2 := B1.tr hb2
  have hs2 := hb2.size
  clear AB a0 a1 hr1 hXB B1 hb2 hLX
  have TB := VBox.new w2 26 (.int .i64 H) (.slice (some ⟨g, 0, none⟩) LX c)
  have B23 : Below w2.heap.size w2 (w2.alloc (Obj.cells #[.int .i64 H, .slice (some ⟨g, 0, none⟩) LX c] 26)) := (Below.refl _ _).al _
  have hwl : IntKind.i64.wrap ((LX : Int) - 1) = (LX : Int) - 1 := IntWalk.i64_in _ (by omega)
  have tb1 := TB.c1
  go_wp2_with fail
  go_quiet (fail)
  go_wp2_with fail
  replace TB := (TB.below ((Below.refl _ _).drN nq))
  replace RB := (RB.below B23).below ((Below.refl _ _).drN nq)
  have hD := (hD.below B23).below ((Below.refl _ _).drN nq)
  have B3 := (B2.tr B23).drN nq
  obtain ⟨G, hG⟩ : ∃ G, w2.heap.size = G := ⟨_, rfl⟩
  rw [hG] at TB hs2 hg2 hD ⊢
  generalize ((w2.alloc (Obj.cells #[.int .i64 H, .slice (some ⟨g, 0, none⟩) LX c] 26)).drewN nq) = w3 at *
  clear tb1 B23 B2 hwl hG
  have hw1 : w.heap.size + 2 ≤ w1.heap.size := by omega
  go_loopw [5, 6] (fun i k wr => ∃ a : Nat, 2 * a ≤ LX + 1 ∧ i = .int .i64 a ∧ k = .int .i64 ((LX : Int) - 1 - a) ∧ VBox wr G (.int .i64 H) (.slice (some ⟨g, 0, none⟩) LX c) ∧ VBox wr (w.heap.size + 1) (.int .i64 0) (.slice none 0 0) ∧ DrwP w1.heap.size G wr (.slice (some ⟨g, 0, none⟩) LX c) (swpX X a) ∧ Below w.heap.size w wr) (fun i _ _ => LX - (intOf i).toNat)
  case atStart => exact ⟨0, by omega, by go_num, by simp, TB, RB, by rw [swp_zero]; exact hD, B3⟩
  case round =>
    clear TB RB hD B3
    obtain ⟨a, ha, rfl, rfl, TB, RB, hD, BR⟩ := hrel
    obtain ⟨wo, rfl⟩ : ∃ wo : World, wo = wr := ⟨_, rfl⟩
    obtain ⟨b, hb⟩ : ∃ b : Nat, LX = a + b + 1 ∨ (LX = 2 * a - 1 ∧ 1 ≤ a ∧ b = 0) := by
      by_cases h : a + 1 ≤ LX
      · exact ⟨LX - 1 - a, Or.inl (by omega)⟩
      · exact ⟨0, by omega⟩
    by_cases hlt : 2 * a + 1 < LX
    · have hb : LX = a + b + 1 := by omega
      have hbv : (LX : Int) - 1 - (a : Int) = (b : Int) := by omega
      rw [hbv]
      have hab : (a : Int) < (b : Int) := by omega
      have hna : (a : Int) < (LX : Int) := by omega
      have hnb : (b : Int) < (LX : Int) := by omega
      have hn0 : (0 : Int) ≤ (a : Int) := Int.natCast_nonneg _
      have hn1 : (0 : Int) ≤ (b : Int) := Int.natCast_nonneg _
      have hwa : IntKind.i64.wrap ((b : Int) - 1) = (b : Int) - 1 := IntWalk.i64_in _ (by omega)
      have hLn := HLX.out
      have hlS : (swpX X a).length = LX := by rw [swp_len]; exact hLn
      have HSW : Hid (((swpX X a).set a ((swpX X a).getD b pZ)).set b ((swpX X a).getD a pZ) = swpX X (a + 1)) := by
        have h := swp_succ (X := X) (a := a) (by omega)
        rw [show X.length - 1 - a = b by omega] at h
        exact h
      have hDd := hD
      obtain ⟨ua, a0, a1, af0, af1, hua, hka⟩ := hDd.at (i := a) (by omega)
      obtain ⟨ub, b0, b1, bf0, bf1, hub, hkb⟩ := hDd.at (i := b) (by omega)
      obtain ⟨pa, hpa⟩ : ∃ p, (swpX X a).getD a pZ = p := ⟨_, rfl⟩
      obtain ⟨pb, hpb⟩ : ∃ p, (swpX X a).getD b pZ = p := ⟨_, rfl⟩
      rw [hpa] at a1 hua HSW
      rw [hpb] at b1 hub HSW
      obtain ⟨xa, ta⟩ := pa
      obtain ⟨xb, tb⟩ := pb
      dsimp only at a1 b1 hua hub
      have hua2 := hua
      have hub2 := hub
      obtain ⟨aa, ca, rfl, -, -⟩ := hua2
      obtain ⟨ab, cb, rfl, -, -⟩ := hub2
      have D1 := hDd.setAt (i := a) (by omega) (.slice ab xb.length cb) xb tb hub hkb
      have hua1 := rdI_set (b := g) (v := .int .i64 tb) (j := a * 2 + 1) (rdI_set (b := g) (v := .slice ab xb.length cb) (j := a * 2) hua (fun k hk => (hka k hk).2)) (fun k hk => (hka k hk).2)
      obtain ⟨uc, e0, e1, ef0, ef1, -, -⟩ := D1.at (i := b) (by simp; omega)
      have D2 := D1.setAt (i := b) (by simp; omega) (.slice aa xa.length ca) xa ta hua1 hka
      rw [HSW.out] at D2
      have g1 : wo.grownBy ((wo.setCell ⟨g, a * 2, none⟩ (.slice ab xb.length cb)).setCell ⟨g, a * 2 + 1, none⟩ (.int .i64 tb)) (some g) := grownBy_setCells wo g [.slice ab xb.length cb, .int .i64 tb] (a * 2)
      have g2 : ((wo.setCell ⟨g, a * 2, none⟩ (.slice ab xb.length cb)).setCell ⟨g, a * 2 + 1, none⟩ (.int .i64 tb)).grownBy ((((wo.setCell ⟨g, a * 2, none⟩ (.slice ab xb.length cb)).setCell ⟨g, a * 2 + 1, none⟩ (.int .i64 tb)).setCell ⟨g, b * 2, none⟩ (.slice aa xa.length ca)).setCell ⟨g, b * 2 + 1, none⟩ (.int .i64 ta)) (some g) := grownBy_setCells ((wo.setCell ⟨g, a * 2, none⟩ (.slice ab xb.length cb)).setCell ⟨g, a * 2 + 1, none⟩ (.int .i64 tb)) g [.slice aa xa.length ca, .int .i64 ta] (b * 2)
      have T1 := TB.grown g1 (by simp only [ne_eq, Option.some.injEq]; omega)
      have T2 := T1.grown g2 (by simp only [ne_eq, Option.some.injEq]; omega)
      have R2 := (RB.grown g1 (by simp only [ne_eq, Option.some.injEq]; omega)).grown g2 (by simp only [ne_eq, Option.some.injEq]; omega)
      have C1 := BR.grown g1 BR.size (fun n e => by simp only [Option.some.injEq] at e; omega)
      have C2 := C1.grown g2 C1.size (fun n e => by simp only [Option.some.injEq] at e; omega)
      have fA : wo.drew.cell? ⟨g, a * 2, none⟩ = some (.slice aa xa.length ca) ∧ wo.drew.cell? ⟨g, a * 2 + 1, none⟩ = some (.int .i64 ta) ∧ wo.drew.cell? ⟨g, b * 2, none⟩ = some (.slice ab xb.length cb) ∧ wo.drew.cell? ⟨g, b * 2 + 1, none⟩ = some (.int .i64 tb) := ⟨a0, a1, b0, b1⟩
      have fB : wo.drew.cell? ⟨G, 1, none⟩ = some (.slice (some ⟨g, 0, none⟩) LX c) := TB.c1
      have fB1 : ((wo.setCell ⟨g, a * 2, none⟩ (.slice ab xb.length cb)).setCell ⟨g, a * 2 + 1, none⟩ (.int .i64 tb)).drew.cell? ⟨G, 1, none⟩ = some (.slice (some ⟨g, 0, none⟩) LX c) := T1.c1
      have HBB := Lib.hid hb
      clear HSW hpa hpb hlS hLn TB RB hD BR hDd hb hbv
      go_wp2_with fail
      
      refine wp_region_noPanic ?_; refine wp_region_L (S := untilL 17 19 (fun w' => w'.cell? ⟨g, a * 2, none⟩ = some (.slice aa xa.length ca) ∧ w'.cell? ⟨g, a * 2 + 1, none⟩ = some (.int .i64 ta) ∧ w'.cell? ⟨g, b * 2, none⟩ = some (.slice ab xb.length cb) ∧ w'.cell? ⟨g, b * 2 + 1, none⟩ = some (.int .i64 tb)) (fun w' => w'.cell? ⟨G, 1, none⟩ = some (.slice (some ⟨g, 0, none⟩) LX c))) (by kernel_rfl) ?_
      (refine wpAnyL_take (S0 := (fun _ => True)) (i := 0) (q := 1) (v := ?lv25) rfl rfl (by kernel_rfl) (by kernel_rfl) (by kernel_rfl) (by kernel_rfl) (by kernel_rfl) (fun _ _ _ h => h) (fun _ _ _ _ => True.intro) (untilL_set (by decide) (by decide)) (Or.inl ⟨by rfl, ?lhy25⟩) ⟨fun _ => fA, fun _ => fB⟩ ?lrest25; case lhy25 => (intro w hSw; (try dsimp only at hSw); go_simp; (try with_reducible rfl)); (try simp only [Act.put, List.getElem_toArray, List.getElem_cons_zero, List.getElem_cons_succ, List.setIfInBounds_toArray, List.set_cons_zero, List.set_cons_succ])); (refine wpAnyL_take (S0 := (fun w' => w'.cell? ⟨G, 1, none⟩ = some (.slice (some ⟨g, 0, none⟩) LX c))) (i := 1) (q := 19) (v := ?lv26) rfl rfl (by kernel_rfl) (by kernel_rfl) (by kernel_rfl) (by kernel_rfl) (by kernel_rfl) (fun _ _ _ h => h) (fun _ _ hq hS => hS.2 hq) (untilL_set (by decide) (by decide)) (Or.inl ⟨by rfl, ?lhy26⟩) ⟨fun _ => fA, fun _ => fB⟩ ?lrest26; case lhy26 => (intro w hSw; (try dsimp only at hSw); go_simp; (try with_reducible rfl)); (try simp only [Act.put, List.getElem_toArray, List.getElem_cons_zero, List.getElem_cons_succ, List.setIfInBounds_toArray, List.set_cons_zero, List.set_cons_succ])); (refine wpAnyL_take (S0 := (fun _ => True)) (i := 2) (q := 16) (v := ?lv27) rfl rfl (by kernel_rfl) (by kernel_rfl) (by kernel_rfl) (by kernel_rfl) (by kernel_rfl) (fun _ _ _ h => h) (fun _ _ _ _ => True.intro) (untilL_set (by decide) (by decide)) (Or.inl ⟨by rfl, ?lhy27⟩) ⟨fun _ => fA, fun _ => fB⟩ ?lrest27; case lhy27 => (intro w hSw; (try dsimp only at hSw); go_simp; (try with_reducible rfl)); (try simp only [Act.put, List.getElem_toArray, List.getElem_cons_zero, List.getElem_cons_succ, List.setIfInBounds_toArray, List.set_cons_zero, List.set_cons_succ])); (refine wpAnyL_take (S0 := (fun _ => True)) (i := 3) (q := 4) (v := ?lv28) rfl rfl (by kernel_rfl) (by kernel_rfl) (by kernel_rfl) (by kernel_rfl) (by kernel_rfl) (fun _ _ _ h => h) (fun _ _ _ _ => True.intro) (untilL_set (by decide) (by decide)) (Or.inl ⟨by rfl, ?lhy28⟩) ⟨fun _ => fA, fun _ => fB⟩ ?lrest28; case lhy28 => (intro w hSw; (try dsimp only at hSw); go_simp; (try with_reducible rfl)); (try simp only [Act.put, List.getElem_toArray, List.getElem_cons_zero, List.getElem_cons_succ, List.setIfInBounds_toArray, List.set_cons_zero, List.set_cons_succ])); (refine wpAnyL_take (S0 := (fun w' => w'.cell? ⟨G, 1, none⟩ = some (.slice (some ⟨g, 0, none⟩) LX c))) (i := 4) (q := 19) (v := ?lv29) rfl rfl (by kernel_rfl) (by kernel_rfl) (by kernel_rfl) (by kernel_rfl) (by kernel_rfl) (fun _ _ _ h => h) (fun _ _ hq hS => hS.2 hq) (untilL_set (by decide) (by decide)) (Or.inl ⟨by rfl, ?lhy29⟩) ⟨fun _ => fA, fun _ => fB⟩ ?lrest29; case lhy29 => (intro w hSw; (try dsimp only at hSw); go_simp; (try with_reducible rfl)); (try simp only [Act.put, List.getElem_toArray, List.getElem_cons_zero, List.getElem_cons_succ, List.setIfInBounds_toArray, List.set_cons_zero, List.set_cons_succ])); (refine wpAnyL_take (S0 := (fun _ => True)) (i := 5) (q := 18) (v := ?lv30) rfl rfl (by kernel_rfl) (by kernel_rfl) (by kernel_rfl) (by kernel_rfl) (by kernel_rfl) (fun _ _ _ h => h) (fun _ _ _ _ => True.intro) (untilL_set (by decide) (by decide)) (Or.inl ⟨by rfl, ?lhy30⟩) ⟨fun _ => fA, fun _ => fB⟩ ?lrest30; case lhy30 => (intro w hSw; (try dsimp only at hSw); go_simp; (try with_reducible rfl)); (try simp only [Act.put, List.getElem_toArray, List.getElem_cons_zero, List.getElem_cons_succ, List.setIfInBounds_toArray, List.set_cons_zero, List.set_cons_succ])); (refine wpAnyL_take (S0 := (fun _ => True)) (i := 6) (q := 7) (v := ?lv31) rfl rfl (by kernel_rfl) (by kernel_rfl) (by kernel_rfl) (by kernel_rfl) (by kernel_rfl) (fun _ _ _ h => h) (fun _ _ _ _ => True.intro) (untilL_set (by decide) (by decide)) (Or.inl ⟨by rfl, ?lhy31⟩) ⟨fun _ => fA, fun _ => fB⟩ ?lrest31; case lhy31 => (intro w hSw; (try dsimp only at hSw); go_simp; (try with_reducible rfl)); (try simp only [Act.put, List.getElem_toArray, List.getElem_cons_zero, List.getElem_cons_succ, List.setIfInBounds_toArray, List.set_cons_zero, List.set_cons_succ])); (refine wpAnyL_take (S0 := (fun w' => w'.cell? ⟨G, 1, none⟩ = some (.slice (some ⟨g, 0, none⟩) LX c))) (i := 7) (q := 19) (v := ?lv32) rfl rfl (by kernel_rfl) (by kernel_rfl) (by kernel_rfl) (by kernel_rfl) (by kernel_rfl) (fun _ _ _ h => h) (fun _ _ hq hS => hS.2 hq) (untilL_set (by decide) (by decide)) (Or.inl ⟨by rfl, ?lhy32⟩) ⟨fun _ => fA, fun _ => fB⟩ ?lrest32; case lhy32 => (intro w hSw; (try dsimp only at hSw); go_simp; (try with_reducible rfl)); (try simp only [Act.put, List.getElem_toArray, List.getElem_cons_zero, List.getElem_cons_succ, List.setIfInBounds_toArray, List.set_cons_zero, List.set_cons_succ])); (refine wpAnyL_take (S0 := (fun _ => True)) (i := 8) (q := 9) (v := ?lv33) rfl rfl (by kernel_rfl) (by kernel_rfl) (by kernel_rfl) (by kernel_rfl) (by kernel_rfl) (fun _ _ _ h => h) (fun _ _ _ _ => True.intro) (untilL_set (by decide) (by decide)) (Or.inl ⟨by rfl, ?lhy33⟩) ⟨fun _ => fA, fun _ => fB⟩ ?lrest33; case lhy33 => (intro w hSw; (try dsimp only at hSw); go_simp; (try with_reducible rfl)); (try simp only [Act.put, List.getElem_toArray, List.getElem_cons_zero, List.getElem_cons_succ, List.setIfInBounds_toArray, List.set_cons_zero, List.set_cons_succ])); (refine wpAnyL_take (S0 := (fun _ => True)) (i := 9) (q := 10) (v := ?lv34) rfl rfl (by kernel_rfl) (by kernel_rfl) (by kernel_rfl) (by kernel_rfl) (by kernel_rfl) (fun _ _ _ h => h) (fun _ _ _ _ => True.intro) (untilL_set (by decide) (by decide)) (Or.inl ⟨by rfl, ?lhy34⟩) ⟨fun _ => fA, fun _ => fB⟩ ?lrest34; case lhy34 => (intro w hSw; (try dsimp only at hSw); go_simp; (try with_reducible rfl)); (try simp only [Act.put, List.getElem_toArray, List.getElem_cons_zero, List.getElem_cons_succ, List.setIfInBounds_toArray, List.set_cons_zero, List.set_cons_succ])); (refine wpAnyL_take (S0 := (fun w' => w'.cell? ⟨g, a * 2, none⟩ = some (.slice aa xa.length ca) ∧ w'.cell? ⟨g, a * 2 + 1, none⟩ = some (.int .i64 ta) ∧ w'.cell? ⟨g, b * 2, none⟩ = some (.slice ab xb.length cb) ∧ w'.cell? ⟨g, b * 2 + 1, none⟩ = some (.int .i64 tb))) (i := 10) (q := 17) (v := ?lv35) rfl rfl (by kernel_rfl) (by kernel_rfl) (by kernel_rfl) (by kernel_rfl) (by kernel_rfl) (fun _ _ _ h => h) (fun _ _ hq hS => hS.1 hq) (untilL_set (by decide) (by decide)) (Or.inl ⟨by rfl, ?lhy35⟩) ⟨fun _ => fA, fun _ => fB⟩ ?lrest35; case lhy35 => (intro w hSw; (try dsimp only at hSw); go_simp; (try with_reducible rfl)); (try simp only [Act.put, List.getElem_toArray, List.getElem_cons_zero, List.getElem_cons_succ, List.setIfInBounds_toArray, List.set_cons_zero, List.set_cons_succ])); (refine wpAnyL_take (S0 := (fun _ => True)) (i := 11) (q := 12) (v := ?lv36) rfl rfl (by kernel_rfl) (by kernel_rfl) (by kernel_rfl) (by kernel_rfl) (by kernel_rfl) (fun _ _ _ h => h) (fun _ _ _ _ => True.intro) (untilL_set (by decide) (by decide)) (Or.inl ⟨by rfl, ?lhy36⟩) ⟨fun _ => fA, fun _ => fB⟩ ?lrest36; case lhy36 => (intro w hSw; (try dsimp only at hSw); go_simp; (try with_reducible rfl)); (try simp only [Act.put, List.getElem_toArray, List.getElem_cons_zero, List.getElem_cons_succ, List.setIfInBounds_toArray, List.set_cons_zero, List.set_cons_succ])); (refine wpAnyL_take (S0 := (fun w' => w'.cell? ⟨G, 1, none⟩ = some (.slice (some ⟨g, 0, none⟩) LX c))) (i := 12) (q := 19) (v := ?lv37) rfl rfl (by kernel_rfl) (by kernel_rfl) (by kernel_rfl) (by kernel_rfl) (by kernel_rfl) (fun _ _ _ h => h) (fun _ _ hq hS => hS.2 hq) (untilL_set (by decide) (by decide)) (Or.inl ⟨by rfl, ?lhy37⟩) ⟨fun _ => fA, fun _ => fB⟩ ?lrest37; case lhy37 => (intro w hSw; (try dsimp only at hSw); go_simp; (try with_reducible rfl)); (try simp only [Act.put, List.getElem_toArray, List.getElem_cons_zero, List.getElem_cons_succ, List.setIfInBounds_toArray, List.set_cons_zero, List.set_cons_succ])); (refine wpAnyL_take (S0 := (fun _ => True)) (i := 13) (q := 14) (v := ?lv38) rfl rfl (by kernel_rfl) (by kernel_rfl) (by kernel_rfl) (by kernel_rfl) (by kernel_rfl) (fun _ _ _ h => h) (fun _ _ _ _ => True.intro) (untilL_set (by decide) (by decide)) (Or.inl ⟨by rfl, ?lhy38⟩) ⟨fun _ => fA, fun _ => fB⟩ ?lrest38; case lhy38 => (intro w hSw; (try dsimp only at hSw); go_simp; (try with_reducible rfl)); (try simp only [Act.put, List.getElem_toArray, List.getElem_cons_zero, List.getElem_cons_succ, List.setIfInBounds_toArray, List.set_cons_zero, List.set_cons_succ])); (refine wpAnyL_take (S0 := (fun _ => True)) (i := 14) (q := 15) (v := ?lv39) rfl rfl (by kernel_rfl) (by kernel_rfl) (by kernel_rfl) (by kernel_rfl) (by kernel_rfl) (fun _ _ _ h => h) (fun _ _ _ _ => True.intro) (untilL_set (by decide) (by decide)) (Or.inl ⟨by rfl, ?lhy39⟩) ⟨fun _ => fA, fun _ => fB⟩ ?lrest39; case lhy39 => (intro w hSw; (try dsimp only at hSw); go_simp; (try with_reducible rfl)); (try simp only [Act.put, List.getElem_toArray, List.getElem_cons_zero, List.getElem_cons_succ, List.setIfInBounds_toArray, List.set_cons_zero, List.set_cons_succ])); (refine wpAnyL_take (S0 := (fun w' => w'.cell? ⟨g, a * 2, none⟩ = some (.slice aa xa.length ca) ∧ w'.cell? ⟨g, a * 2 + 1, none⟩ = some (.int .i64 ta) ∧ w'.cell? ⟨g, b * 2, none⟩ = some (.slice ab xb.length cb) ∧ w'.cell? ⟨g, b * 2 + 1, none⟩ = some (.int .i64 tb))) (i := 15) (q := 17) (v := ?lv40) rfl rfl (by kernel_rfl) (by kernel_rfl) (by kernel_rfl) (by kernel_rfl) (by kernel_rfl) (fun _ _ _ h => h) (fun _ _ hq hS => hS.1 hq) (untilL_set (by decide) (by decide)) (Or.inl ⟨by rfl, ?lhy40⟩) ⟨fun _ => fA, fun _ => fB⟩ ?lrest40; case lhy40 => (intro w hSw; (try dsimp only at hSw); go_simp; (try with_reducible rfl)); (try simp only [Act.put, List.getElem_toArray, List.getElem_cons_zero, List.getElem_cons_succ, List.setIfInBounds_toArray, List.set_cons_zero, List.set_cons_succ])); (refine wpAnyL_take (S0 := (fun _ => True)) (i := 16) (q := 17) (v := ?lv41) rfl rfl (by kernel_rfl) (by kernel_rfl) (by kernel_rfl) (by kernel_rfl) (by kernel_rfl) (fun _ _ _ h => h) (fun _ _ _ _ => True.intro) (untilL_set (by decide) (by decide)) (Or.inl ⟨by rfl, ?lhy41⟩) ⟨fun _ => fA, fun _ => fB⟩ ?lrest41; case lhy41 => (intro w hSw; (try dsimp only at hSw); go_simp; (try with_reducible rfl)); (try simp only [Act.put, List.getElem_toArray, List.getElem_cons_zero, List.getElem_cons_succ, List.setIfInBounds_toArray, List.set_cons_zero, List.set_cons_succ]))
      refine wpAnyL_ready (rs := [17]) (by kernel_rfl) (by simp) ?_; refine AllReadyL.cons (i := 17) rfl (fun K hK => ?_) AllReadyL.nil
      go_simp
      
      refine hK.out _ _ ⟨(fun h => Bool.noConfusion (show true = false from h)), (fun _ => fB1)⟩ (fun hHeld => ?_); clear hK K; (try simp only [Act.put, List.getElem_toArray, List.getElem_cons_zero, List.getElem_cons_succ, List.setIfInBounds_toArray, List.set_cons_zero, List.set_cons_succ])
      
      (refine wpAnyL_take (S0 := (fun _ => True)) (i := 18) (q := 19) (v := ?lv42) rfl rfl (by kernel_rfl) (by kernel_rfl) (by kernel_rfl) (by kernel_rfl) (by kernel_rfl) (fun _ _ _ h => h) (fun _ _ _ _ => True.intro) (untilL_set (by decide) (by decide)) (Or.inl ⟨by rfl, ?lhy42⟩) ⟨(fun h => Bool.noConfusion (show true = false from h)), fun _ => fB1⟩ ?lrest42; case lhy42 => (intro w hSw; (try dsimp only at hSw); go_simp; (try with_reducible rfl)); (try simp only [Act.put, List.getElem_toArray, List.getElem_cons_zero, List.getElem_cons_succ, List.setIfInBounds_toArray, List.set_cons_zero, List.set_cons_succ]))
      refine wpAnyL_ready (rs := [19]) (by kernel_rfl) (by simp) ?_; refine AllReadyL.cons (i := 19) rfl (fun K hK => ?_) AllReadyL.nil
      go_simp
      refine hK.out _ _ ⟨(fun h => Bool.noConfusion (show true = false from h)), (fun h => Bool.noConfusion (show true = false from h))⟩ (fun hHeld => ?_); clear hK K; (try simp only [Act.put, List.getElem_toArray, List.getElem_cons_zero, List.getElem_cons_succ, List.setIfInBounds_toArray, List.set_cons_zero, List.set_cons_succ])
      refine wpAnyL_done (by kernel_rfl) ?_ _; refine NoPanic.normal ?_
      clear a0 a1 af0 af1 b0 b1 bf0 bf1 e0 e1 ef0 ef1 fA fB fB1
      generalize ((((wo.setCell ⟨g, a * 2, none⟩ (.slice ab xb.length cb)).setCell ⟨g, a * 2 + 1, none⟩ (.int .i64 tb)).setCell ⟨g, b * 2, none⟩ (.slice aa xa.length ca)).setCell ⟨g, b * 2 + 1, none⟩ (.int .i64 ta)) = wz at *
      go_wp2
      go_roundw
      case rel => exact ⟨a + 1, by have := HBB.out; omega, by go_num, by rw [show (LX : Int) - 1 - ((a + 1 : Nat) : Int) = (b : Int) - 1 by have := HBB.out; omega], by first | exact T2 | exact T2.below (Below.refl _ _).dr, by first | exact R2 | exact R2.below (Below.refl _ _).dr, by first | exact D2 | exact D2.below (Below.refl _ _).dr, by first | exact C2 | exact C2.tr (Below.refl _ _).dr⟩
      case measure => (simp [intOf] <;> (have := HBB.out; omega))
    · have hn : ¬ (a : Int) < (LX : Int) - 1 - (a : Int) := by omega
      rw [swp_end (by have := HLX.out; omega)] at hD
      have t0 := TB.c0
      have t1 := TB.c1
      have r0 := RB.c0
      have r1 := RB.c1
      have rf0 := RB.f0
      have rf1 := RB.f1
      obtain ⟨TZ, gz⟩ := RB.set (.int .i64 H) (.slice (some ⟨g, 0, none⟩) LX c)
      have BZ := BR.grown gz BR.size (fun n e => by simp only [Option.some.injEq] at e; omega)
      have DZ := (hD.upd (Upd.of_grown (lo := w.heap.size + 1) (hi := w.heap.size + 2) gz (fun k hk => by simp only [Option.some.injEq] at hk; omega)) (Or.inr (by omega))).rd
      clear hb
      go_wp2
      have X0 := TZ.c0
      have X1 := TZ.c1
      refine bodyPost_ret (v := .tuple #[.agg #[.int .i64 H, .slice (some ⟨g, 0, none⟩) LX c], .int .i64 0]) (by simp [results, Try.results10, go_sem, X0, X1]) rfl ⟨_, by rw [HC.out, HH.out], by rw [HXX.out]; exact DZ, BZ⟩
end Go.Proofs.Ytgcmnpimkfmccaa
