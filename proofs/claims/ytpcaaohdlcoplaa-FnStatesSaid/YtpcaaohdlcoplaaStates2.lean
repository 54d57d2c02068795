/- The law FnStates returns true for all slices of bytes. No condition. -/
import Derived.Test.YtpcaaohdlcoplaaStY
import Derived.Deep.RegionHeld3
namespace Go.Proofs.Ytpcaaohdlcoplaa
open Go.ChangeShapes Go.WideShapes Go.ChangeAt Go.RowKit
set_option linter.unusedVariables false
set_option linter.unusedSimpArgs false
namespace fnStates
/-- two cells that may be written -/
def Box2 (w : World) (g : Nat) : Prop := (w.cell? ⟨g, 0, none⟩ = some (.int .i64 0) ∧ w.frozen? ⟨g, 0, none⟩ = false) ∧ (w.cell? ⟨g, 1, none⟩ = some (.int .i64 0) ∧ w.frozen? ⟨g, 1, none⟩ = false)
theorem Box2.below {a b : World} {g : Nat} (h : Box2 a g) (hb : Below a.heap.size a b) : Box2 b g := ⟨⟨keepc hb h.1.1, frozenc hb h.1.1 h.1.2⟩, ⟨keepc hb h.2.1, frozenc hb h.2.1 h.2.2⟩⟩
theorem box2_new (w : World) : Box2 (w.alloc (Obj.cells #[Value.int IntKind.i64 0, Value.int IntKind.i64 0] 35)) w.heap.size := ⟨⟨World.cell?_alloc_at _ _ _ _ rfl, World.frozen?_alloc_at _ _ _ _ rfl⟩, ⟨World.cell?_alloc_at _ _ _ _ rfl, World.frozen?_alloc_at _ _ _ _ rfl⟩⟩
theorem box2_drew {w w2 : World} (hb : Below (w.alloc (Obj.cells #[Value.int IntKind.i64 0, Value.int IntKind.i64 0] 35)).drew.heap.size (w.alloc (Obj.cells #[Value.int IntKind.i64 0, Value.int IntKind.i64 0] 35)).drew w2) : Box2 w2 w.heap.size := Box2.below (b := w2) (box2_new w) (below_drew hb)
theorem valid_of {h m : Int} (hh : 1 ≤ h ∧ h ≤ 10) (hm : 0 ≤ m ∧ m < 2 ^ h.toNat) : validB h m = true := validB_iff.2 ⟨hh, by omega⟩
theorem up_at {L : List Int} (hp : L.Pairwise (· < ·)) {i : Nat} (hi : i + 1 < L.length) : L.getD i 0 < L.getD (i + 1) 0 := by
  have e1 : L.getD i 0 = L[i] := by simp [List.getD, show i < L.length by omega]
  have e2 : L.getD (i + 1) 0 = L[i + 1] := by simp [List.getD, hi]
  rw [e1, e2]
  exact (sorted_get hp i (i + 1) (by omega) hi).2 (by omega)
set_option maxHeartbeats 16000000 in
set_option maxRecDepth 100000 in
theorem walk (v0 v1 : Value) (w : World) (a0 : Arg_bytes w v0) (a1 : Arg_bytes w v1) : Calls Try.prog 5 #[v0, v1] w fun e w' => e = .returned (.bool true) ∧ Below w.heap.size w w' := by
  obtain ⟨bs, hb0⟩ := a0
  obtain ⟨cs, hb1⟩ := a1
  have HB0 := Lib.hid hb0
  have HB1 := Lib.hid hb1
  obtain ⟨aa, ca, rfl, hla, -, -⟩ := hb0
  obtain ⟨ab, cb, rfl, hlb, -, -⟩ := hb1
  cases hlong : (decide ((bs.length : Int) > 3000) || decide ((cs.length : Int) > 3000))
  rotate_left
  · go_enter Try.func5, Try.ntmps5
    go_wp2_with fail
    refine (c_laws_a2Long _ _ _ _ _ _ _ (by omega) (by omega)).mono ?_; rintro e w1 ⟨rfl, rfl⟩; rw [hlong]
    go_wp2
    go_ret
    exact ⟨rfl, by (repeat (first | (with_reducible assumption) | (with_reducible exact Below.refl _ _) | (with_reducible refine Below.setCell ?_ (by first | (simp; done) | (simp; omega)) _) | (with_reducible refine Below.al ?_ _) | (with_reducible refine Below.dr ?_) | (with_reducible refine Below.drN ?_ _) | (with_reducible refine Below.tr ?_ (by with_reducible assumption))))⟩
  go_enter Try.func5, Try.ntmps5
  go_wp2_with fail
  refine (c_laws_a2Long _ _ _ _ _ _ _ (by omega) (by omega)).mono ?_; rintro e w1 ⟨rfl, rfl⟩; rw [hlong]
  go_wp2_with fail
  refine (c_spec_A2State bs _ _ HB0.out).mono ?_; rintro e w2 ⟨H, m, rfl, hH, hm, B2⟩
  have hh : 1 ≤ H ∧ H ≤ 10 := by omega
  have hv := valid_of hh hm
  obtain ⟨rt1, rt2, rt3⟩ := read_text hh hm
  have HRT1 := Lib.hid rt1
  have HRT2 := Lib.hid rt2
  have HRT3 := Lib.hid rt3
  have HSZ := Lib.hid (stT_size H m)
  have hmem : m ∈ maskL (popI m) H := mem_maskL.2 ⟨hm, rfl⟩
  have HNV : Hid (∀ t, canB H m t = true → validB H (nextM m t) = true ∧ popI (nextM m t) = popI m) := fun t hc => by
    have h1 := mem_maskL.1 (next_mem hh hmem hc)
    exact ⟨valid_of hh h1.1, h1.2⟩
  have hpos := throws_some hh hm
  have HTC : Hid (∀ k, k < (throwsL H m).length → canB H m ((throwsL H m).getD k 0) = true ∧ 0 ≤ (throwsL H m).getD k 0 ∧ (throwsL H m).getD k 0 ≤ H) := fun k hk => by
    have h1 := (mem_throwsL (by omega)).1 (getD_mem' hk)
    exact ⟨h1.2, h1.1⟩
  have HUP := Lib.hid (fun i hi => up_at (throws_up H m) (i := i) hi)
  have hmb := (valid_bd hv).2
  have htl : (throwsL H m).length ≤ 11 := by
    have := throwsTo_len H m (H + 1).toNat
    unfold throwsL; omega
  have HV := Lib.hid hv
  clear rt1 rt2 rt3 hmem
  obtain ⟨T, hT⟩ : ∃ T, Hid (throwsL H m = T) := ⟨_, Lib.hid rfl⟩
  rw [hT.out] at hpos HTC HUP htl
  obtain ⟨N, hN⟩ : ∃ N, Hid (popI m = N) := ⟨_, Lib.hid rfl⟩
  rw [hN.out] at HNV
  go_wp2_with fail
  obtain ⟨W3, hW3⟩ : ∃ W, W = w2.alloc (Obj.cells #[.int .i64 H, .int .i64 m] 35) := ⟨_, rfl⟩
  have s0 : W3.cell? ⟨w2.heap.size, 0, none⟩ = some (.int .i64 H) := by rw [hW3]; exact World.cell?_alloc_at _ _ _ _ rfl
  have s1 : W3.cell? ⟨w2.heap.size, 1, none⟩ = some (.int .i64 m) := by rw [hW3]; exact World.cell?_alloc_at _ _ _ _ rfl
  have B3 : Below w.heap.size w W3 := by rw [hW3]; exact B2.al _
  rw [← hW3]
  clear hW3
  obtain ⟨g, hg⟩ : ∃ g, w2.heap.size = g := ⟨_, rfl⟩
  rw [hg] at s0 s1 ⊢
  refine (c_impl_PropsIn H m _ HV.out).mono ?_; rintro e w4 ⟨rfl, hb4⟩
  rw [hN.out]
  have s0 := keepc hb4 s0
  have s1 := keepc hb4 s1
  go_wp2_with fail
  refine (c_impl_ThrowsFromV H m _ HV.out).mono ?_; rintro e w5 ⟨vt, rfl, hot, hb5⟩
  rw [hT.out] at hot
  have s0 := keepc hb5 s0
  have s1 := keepc hb5 s1
  go_wp2_with fail
  refine (c_impl_StateText H m _ HV.out).mono ?_; rintro e w6 ⟨rfl, hb6⟩
  have s0 := keepc hb6 s0
  have s1 := keepc hb6 s1
  go_wp2_with fail
  refine (c_impl_ReadState (stT H m) _ (by have := HSZ.out; omega)).mono ?_; rintro e w7 ⟨rfl, hb7⟩
  rw [HRT1.out, cond_true, cond_true, HRT2.out, HRT3.out]
  have s0 := keepc hb7 s0
  have s1 := keepc hb7 s1
  have hgs : g < w7.heap.size := World.block_lt_of_cell? _ _ s0
  have hgn : ¬ w7.heap.size = g := by omega
  have hgn2 : ¬ g = w7.heap.size := by omega
  have B7 := (((B3.tr hb4).tr hb5).tr hb6).tr hb7
  have HRD := Lib.hid ((hot.rd.below hb6).below hb7)
  obtain ⟨at1, ct1, rfl, -, hct⟩ := (hot.rd.below hb6).below hb7
  have HT7 := Lib.hid hct
  clear hct hot
  have hpos2 : ¬ T.length = 0 := by omega
  have hb8 : Below w7.heap.size w7 (w7.alloc (Obj.cells #[.int .i64 H, .int .i64 m] 35)) := (Below.refl _ _).al _
  have HB8 := Lib.hid hb8
  have ttl : ((T.length : Int) == 0) = false := beq_eq_false_iff_ne.2 (by omega)
  have s0' := keepc hb8 s0
  have s1' := keepc hb8 s1
  go_wp2
  obtain ⟨W8, hW8⟩ : ∃ W, W = w7.alloc (Obj.cells #[.int .i64 H, .int .i64 m] 35) := ⟨_, rfl⟩
  rw [← hW8] at hb8 HB8 s0' s1' ⊢
  clear hW8 s0 s1
  have B8 := B7.tr hb8
  have HT8 : Hid (∀ k, k < T.length → ∃ b off, at1 = some ⟨b, off, none⟩ ∧ W8.cell? ⟨b, off + k, none⟩ = some (.int .i64 (T.getD k 0))) := fun k hk => by
    obtain ⟨b, off, h1, h2⟩ := HT7.out k hk
    exact ⟨b, off, h1, keepc HB8.out h2⟩
  go_loopw [12] (fun i wr => ∃ k : Nat, k ≤ T.length ∧ i = .int .i64 k ∧ Below W8.heap.size W8 wr) (fun i _ => T.length - (intOf i).toNat)
  case atStart => exact ⟨0, by omega, by go_num, Below.refl _ _⟩
  case round =>
    obtain ⟨k, hk, rfl, BR⟩ := hrel
    by_cases hlt : k < T.length
    · obtain ⟨b, off, rfl, hcell⟩ := HT8.out k hlt
      have x0 := keepc BR hcell
      have s0 := keepc BR s0'
      have s1 := keepc BR s1'
      obtain ⟨hcan, ht0, ht1⟩ := HTC.out k hlt
      obtain ⟨hvn, hpn⟩ := HNV.out _ hcan
      obtain ⟨t, ht⟩ : ∃ t, Hid (T.getD k 0 = t) := ⟨_, Lib.hid rfl⟩
      rw [ht.out] at x0 hcan ht0 ht1 hvn hpn
      obtain ⟨M, hM⟩ : ∃ M, Hid (nextM m t = M) := ⟨_, Lib.hid rfl⟩
      rw [hM.out] at hvn hpn
      have hin0 : (0 : Int) ≤ (k : Int) := by omega
      have hin1 : (k : Int) < (T.length : Int) := by omega
      have hCN : Hid (∀ w9, Calls Try.prog 29 #[.agg #[.int .i64 H, .int .i64 m], .int .i64 t] w9 fun e w' => e = .returned (.tuple #[.agg #[.int .i64 H, .int .i64 M], .int .i64 0]) ∧ Below w9.heap.size w9 w') := fun w9 => by
        have h := c_impl_NextStateG H m t w9 HV.out
        rw [hcan, cond_true, cond_true, cond_true, hM.out] at h
        exact h
      have hbz : b < wr.heap.size := World.block_lt_of_cell? _ _ x0
      have hgz : g < wr.heap.size := World.block_lt_of_cell? _ _ s0
      have nb1 : ¬ wr.heap.size = b := by omega
      have nb2 : ¬ wr.heap.size = g := by omega
      obtain ⟨wo, rfl⟩ : ∃ wo : World, wo = wr := ⟨_, rfl⟩
      go_wp2_with fail
      go_region_held3 (fun w' => w'.cell? ⟨g, 0, none⟩ = some (.int .i64 H) ∧ w'.cell? ⟨g, 1, none⟩ = some (.int .i64 m) ∧ w'.cell? ⟨b, off + k, none⟩ = some (.int .i64 t))
        (go_keep)
        (first | ((go_at_call 29; refine (hCN.out _).mono ?_; rintro e w9 ⟨rfl, hb9⟩; (first | (have hb9' := below_new hb9; have X2 := box2_drew hb9) | (have hb9' := below_drew hb9)); have q0 := keepc hb9' s0; have q1 := keepc hb9' s1; have q2 := keepc hb9' x0; (try (have z0 := X2.1.1; have z1 := X2.2.1; have y0 := X2.1.2; have y1 := X2.2.2)))))
      all_goals (
        have hq9 := hb9'.size
        first
        | (
          obtain ⟨W9, hW9⟩ : ∃ W9, W9 = w9.alloc (Obj.cells #[.int .i64 H, .int .i64 M] 35) := ⟨_, rfl⟩
          have c0 : W9.cell? ⟨w9.heap.size, 0, none⟩ = some (.int .i64 H) := by rw [hW9]; exact World.cell?_alloc_at _ _ _ _ rfl
          have c1 : W9.cell? ⟨w9.heap.size, 1, none⟩ = some (.int .i64 M) := by rw [hW9]; exact World.cell?_alloc_at _ _ _ _ rfl
          have B9 : Below wo.heap.size wo W9 := by rw [hW9]; exact hb9'.al _
          rw [← hW9]
          clear hW9
          obtain ⟨G, hG⟩ : ∃ G, w9.heap.size = G := ⟨_, rfl⟩
          have hgG : ¬ G = g ∧ ¬ g = G := by omega
          rw [hG] at c0 c1 ⊢)
        | (
          obtain ⟨X0', X1', -, hgr⟩ := set2 w9 wo.heap.size (.int .i64 H) (.int .i64 M) _ _ z0 z1
          obtain ⟨W9, hW9⟩ : ∃ W9, W9 = ((w9.setCell ⟨wo.heap.size, 0, none⟩ (.int .i64 H)).setCell ⟨wo.heap.size, 1, none⟩ (.int .i64 M)) := ⟨_, rfl⟩
          have c0 : W9.cell? ⟨wo.heap.size, 0, none⟩ = some (.int .i64 H) := by rw [hW9]; exact X0'
          have c1 : W9.cell? ⟨wo.heap.size, 1, none⟩ = some (.int .i64 M) := by rw [hW9]; exact X1'
          have B9 : Below wo.heap.size wo W9 := by rw [hW9]; exact (hb9'.setCell (p := ⟨wo.heap.size, 0, none⟩) (Nat.le_refl _) _).setCell (p := ⟨wo.heap.size, 1, none⟩) (Nat.le_refl _) _
          rw [← hW9]
          clear hW9 z0 z1 y0 y1 X0' X1' hgr
          obtain ⟨G, hG⟩ : ∃ G, wo.heap.size = G := ⟨_, rfl⟩
          have hgG : ¬ G = g ∧ ¬ g = G := by omega
          rw [hG] at c0 c1 ⊢))
      · have s0 := keepc B9 s0
        have s1 := keepc B9 s1
        have x0 := keepc B9 x0
        clear q0 q1 q2
        go_wp2_with fail
        refine (c_spec_PropsIn H M _ hvn).mono ?_; rintro e w10 ⟨rfl, hb10⟩
        rw [hpn]
        have s0 := keepc hb10 s0
        have s1 := keepc hb10 s1
        have x0 := keepc hb10 x0
        have c0 := keepc hb10 c0
        have c1 := keepc hb10 c1
        have B10 := BR.tr (B9.tr hb10)
        have tN : (N != N) = false := by simp
        have tH : (H != H) = false := by simp
        have hCC : Hid (∀ w9, Calls Try.prog 31 #[.agg #[.int .i64 H, .int .i64 m], .int .i64 t] w9 fun e w' => e = .returned (.bool true) ∧ Below w9.heap.size w9 w') := fun w9 => by
          have h := c_impl_CanThrow H m t w9 HV.out
          rw [hcan] at h
          exact h
        rcases k with _ | j
        · rw [Nat.add_zero] at x0
          rw [show ((0 : Nat) : Int) = 0 from rfl]
          have hp1 : (0 : Int) < (T.length : Int) := by omega
          go_wp2_with fail
          refine wp_region_noPanic ?_
          refine wp_region_held_drew (S := fun w' => w'.cell? ⟨g, 0, none⟩ = some (.int .i64 H) ∧ w'.cell? ⟨g, 1, none⟩ = some (.int .i64 m) ∧ w'.cell? ⟨G, 0, none⟩ = some (.int .i64 H) ∧ w'.cell? ⟨b, off, none⟩ = some (.int .i64 t)) (by kernel_rfl) ?_ (fun hHeld => ?_)
          · exact ⟨s0, s1, c0, x0⟩
          (refine wpAnyH_take (i := 0) (v := ?tv1) rfl (by kernel_rfl) (by kernel_rfl) (by kernel_rfl) (fun _ _ _ h => h) (Or.inl ⟨by rfl, ?thy1⟩) (by assumption) ?trest1; case thy1 => (intro w hSw; (try dsimp only at hSw); go_simp; (try with_reducible rfl)); (try simp only [Act.put, List.getElem_toArray, List.getElem_cons_zero, List.getElem_cons_succ, List.setIfInBounds_toArray, List.set_cons_zero, List.set_cons_succ])); (refine wpAnyH_take (i := 1) (v := ?tv2) rfl (by kernel_rfl) (by kernel_rfl) (by kernel_rfl) (fun _ _ _ h => h) (Or.inl ⟨by rfl, ?thy2⟩) (by assumption) ?trest2; case thy2 => (intro w hSw; (try dsimp only at hSw); go_simp; (try with_reducible rfl)); (try simp only [Act.put, List.getElem_toArray, List.getElem_cons_zero, List.getElem_cons_succ, List.setIfInBounds_toArray, List.set_cons_zero, List.set_cons_succ])); (refine wpAnyH_take (i := 2) (v := ?tv3) rfl (by kernel_rfl) (by kernel_rfl) (by kernel_rfl) (fun _ _ _ h => h) (Or.inl ⟨by rfl, ?thy3⟩) (by assumption) ?trest3; case thy3 => (intro w hSw; (try dsimp only at hSw); go_simp; (try with_reducible rfl)); (try simp only [Act.put, List.getElem_toArray, List.getElem_cons_zero, List.getElem_cons_succ, List.setIfInBounds_toArray, List.set_cons_zero, List.set_cons_succ]))
          (refine wpAnyH_take (i := 3) (v := ?tv4) rfl (by kernel_rfl) (by kernel_rfl) (by kernel_rfl) (fun _ _ _ h => h) (Or.inl ⟨by kernel_rfl, ?thy4⟩) (by assumption) ?trest4; case thy4 => (intro w hSw; (try dsimp only at hSw); go_simp; (try with_reducible rfl)); (try simp only [Act.put, List.getElem_toArray, List.getElem_cons_zero, List.getElem_cons_succ, List.setIfInBounds_toArray, List.set_cons_zero, List.set_cons_succ])); (refine wpAnyH_take (i := 4) (v := ?tv5) rfl (by kernel_rfl) (by kernel_rfl) (by kernel_rfl) (fun _ _ _ h => h) (Or.inl ⟨by kernel_rfl, ?thy5⟩) (by assumption) ?trest5; case thy5 => (intro w hSw; (try dsimp only at hSw); go_simp; (try with_reducible rfl)); (try simp only [Act.put, List.getElem_toArray, List.getElem_cons_zero, List.getElem_cons_succ, List.setIfInBounds_toArray, List.set_cons_zero, List.set_cons_succ]))
          (refine wpAnyH_take (i := 5) (v := ?tv6) rfl (by kernel_rfl) (by kernel_rfl) (by kernel_rfl) (fun _ _ _ h => h) (Or.inl ⟨by rfl, ?thy6⟩) (by assumption) ?trest6; case thy6 => (intro w hSw; (try dsimp only at hSw); go_simp; (try with_reducible rfl)); (try simp only [Act.put, List.getElem_toArray, List.getElem_cons_zero, List.getElem_cons_succ, List.setIfInBounds_toArray, List.set_cons_zero, List.set_cons_succ])); (refine wpAnyH_take (i := 6) (v := ?tv7) rfl (by kernel_rfl) (by kernel_rfl) (by kernel_rfl) (fun _ _ _ h => h) (Or.inl ⟨by rfl, ?thy7⟩) (by assumption) ?trest7; case thy7 => (intro w hSw; (try dsimp only at hSw); go_simp; (try with_reducible rfl)); (try simp only [Act.put, List.getElem_toArray, List.getElem_cons_zero, List.getElem_cons_succ, List.setIfInBounds_toArray, List.set_cons_zero, List.set_cons_succ]))
          (refine wpAnyH_take (i := 7) (v := ?tv8) rfl (by kernel_rfl) (by kernel_rfl) (by kernel_rfl) (fun _ _ _ h => h) (Or.inl ⟨by kernel_rfl, ?thy8⟩) (by assumption) ?trest8; case thy8 => (intro w hSw; (try dsimp only at hSw); go_simp; (try with_reducible rfl)); (try simp only [Act.put, List.getElem_toArray, List.getElem_cons_zero, List.getElem_cons_succ, List.setIfInBounds_toArray, List.set_cons_zero, List.set_cons_succ])); (refine wpAnyH_take (i := 8) (v := ?tv9) rfl (by kernel_rfl) (by kernel_rfl) (by kernel_rfl) (fun _ _ _ h => h) (Or.inl ⟨by kernel_rfl, ?thy9⟩) (by assumption) ?trest9; case thy9 => (intro w hSw; (try dsimp only at hSw); go_simp; (try with_reducible rfl)); (try simp only [Act.put, List.getElem_toArray, List.getElem_cons_zero, List.getElem_cons_succ, List.setIfInBounds_toArray, List.set_cons_zero, List.set_cons_succ])); (refine wpAnyH_take (i := 9) (v := ?tv10) rfl (by kernel_rfl) (by kernel_rfl) (by kernel_rfl) (fun _ _ _ h => h) (Or.inl ⟨by kernel_rfl, ?thy10⟩) (by assumption) ?trest10; case thy10 => (intro w hSw; (try dsimp only at hSw); go_simp; (try with_reducible rfl)); (try simp only [Act.put, List.getElem_toArray, List.getElem_cons_zero, List.getElem_cons_succ, List.setIfInBounds_toArray, List.set_cons_zero, List.set_cons_succ]))
          (refine wpAnyH_take (i := 10) (v := ?tv11) rfl (by kernel_rfl) (by kernel_rfl) (by kernel_rfl) (fun _ _ _ h => h) (Or.inl ⟨by rfl, ?thy11⟩) (by assumption) ?trest11; case thy11 => (intro w hSw; (try dsimp only at hSw); go_simp; (try with_reducible rfl)); (try simp only [Act.put, List.getElem_toArray, List.getElem_cons_zero, List.getElem_cons_succ, List.setIfInBounds_toArray, List.set_cons_zero, List.set_cons_succ])); (refine wpAnyH_take (i := 11) (v := ?tv12) rfl (by kernel_rfl) (by kernel_rfl) (by kernel_rfl) (fun _ _ _ h => h) (Or.inl ⟨by rfl, ?thy12⟩) (by assumption) ?trest12; case thy12 => (intro w hSw; (try dsimp only at hSw); go_simp; (try with_reducible rfl)); (try simp only [Act.put, List.getElem_toArray, List.getElem_cons_zero, List.getElem_cons_succ, List.setIfInBounds_toArray, List.set_cons_zero, List.set_cons_succ]))
          (refine wpAnyH_take (i := 12) (v := ?tv13) rfl (by kernel_rfl) (by kernel_rfl) (by kernel_rfl) (fun _ _ _ h => h) (Or.inl ⟨by kernel_rfl, ?thy13⟩) (by assumption) ?trest13; case thy13 => (intro w hSw; (try dsimp only at hSw); go_simp; (try with_reducible rfl)); (try simp only [Act.put, List.getElem_toArray, List.getElem_cons_zero, List.getElem_cons_succ, List.setIfInBounds_toArray, List.set_cons_zero, List.set_cons_succ])); (refine wpAnyH_take (i := 13) (v := ?tv14) rfl (by kernel_rfl) (by kernel_rfl) (by kernel_rfl) (fun _ _ _ h => h) (Or.inl ⟨by kernel_rfl, ?thy14⟩) (by assumption) ?trest14; case thy14 => (intro w hSw; (try dsimp only at hSw); go_simp; (try with_reducible rfl)); (try simp only [Act.put, List.getElem_toArray, List.getElem_cons_zero, List.getElem_cons_succ, List.setIfInBounds_toArray, List.set_cons_zero, List.set_cons_succ])); (refine wpAnyH_take (i := 14) (v := ?tv15) rfl (by kernel_rfl) (by kernel_rfl) (by kernel_rfl) (fun _ _ _ h => h) (Or.inl ⟨by kernel_rfl, ?thy15⟩) (by assumption) ?trest15; case thy15 => (intro w hSw; (try dsimp only at hSw); go_simp; (try with_reducible rfl)); (try simp only [Act.put, List.getElem_toArray, List.getElem_cons_zero, List.getElem_cons_succ, List.setIfInBounds_toArray, List.set_cons_zero, List.set_cons_succ])); (refine wpAnyH_take (i := 15) (v := ?tv16) rfl (by kernel_rfl) (by kernel_rfl) (by kernel_rfl) (fun _ _ _ h => h) (Or.inl ⟨by kernel_rfl, ?thy16⟩) (by assumption) ?trest16; case thy16 => (intro w hSw; (try dsimp only at hSw); go_simp; (try with_reducible rfl)); (try simp only [Act.put, List.getElem_toArray, List.getElem_cons_zero, List.getElem_cons_succ, List.setIfInBounds_toArray, List.set_cons_zero, List.set_cons_succ])); (refine wpAnyH_take (i := 16) (v := ?tv17) rfl (by kernel_rfl) (by kernel_rfl) (by kernel_rfl) (fun _ _ _ h => h) (Or.inl ⟨by kernel_rfl, ?thy17⟩) (by assumption) ?trest17; case thy17 => (intro w hSw; (try dsimp only at hSw); go_simp; (try with_reducible rfl)); (try simp only [Act.put, List.getElem_toArray, List.getElem_cons_zero, List.getElem_cons_succ, List.setIfInBounds_toArray, List.set_cons_zero, List.set_cons_succ]))
          (refine wpAnyH_take (i := 17) (v := ?tv18) rfl (by kernel_rfl) (by kernel_rfl) (by kernel_rfl) (fun _ _ _ h => h) (Or.inl ⟨by rfl, ?thy18⟩) (by assumption) ?trest18; case thy18 => (intro w hSw; (try dsimp only at hSw); go_simp; (try with_reducible rfl)); (try simp only [Act.put, List.getElem_toArray, List.getElem_cons_zero, List.getElem_cons_succ, List.setIfInBounds_toArray, List.set_cons_zero, List.set_cons_succ])); (refine wpAnyH_take (i := 18) (v := ?tv19) rfl (by kernel_rfl) (by kernel_rfl) (by kernel_rfl) (fun _ _ _ h => h) (Or.inl ⟨by rfl, ?thy19⟩) (by assumption) ?trest19; case thy19 => (intro w hSw; (try dsimp only at hSw); go_simp; (try with_reducible rfl)); (try simp only [Act.put, List.getElem_toArray, List.getElem_cons_zero, List.getElem_cons_succ, List.setIfInBounds_toArray, List.set_cons_zero, List.set_cons_succ]))
          (refine wpAnyH_take (i := 19) (v := ?tv20) rfl (by kernel_rfl) (by kernel_rfl) (by kernel_rfl) (fun _ _ _ h => h) (Or.inl ⟨by kernel_rfl, ?thy20⟩) (by assumption) ?trest20; case thy20 => (intro w hSw; (try dsimp only at hSw); go_simp; (try with_reducible rfl)); (try simp only [Act.put, List.getElem_toArray, List.getElem_cons_zero, List.getElem_cons_succ, List.setIfInBounds_toArray, List.set_cons_zero, List.set_cons_succ])); (refine wpAnyH_take (i := 20) (v := ?tv21) rfl (by kernel_rfl) (by kernel_rfl) (by kernel_rfl) (fun _ _ _ h => h) (Or.inl ⟨by kernel_rfl, ?thy21⟩) (by assumption) ?trest21; case thy21 => (intro w hSw; (try dsimp only at hSw); go_simp; (try with_reducible rfl)); (try simp only [Act.put, List.getElem_toArray, List.getElem_cons_zero, List.getElem_cons_succ, List.setIfInBounds_toArray, List.set_cons_zero, List.set_cons_succ])); (refine wpAnyH_take (i := 21) (v := ?tv22) rfl (by kernel_rfl) (by kernel_rfl) (by kernel_rfl) (fun _ _ _ h => h) (Or.inl ⟨by kernel_rfl, ?thy22⟩) (by assumption) ?trest22; case thy22 => (intro w hSw; (try dsimp only at hSw); go_simp; (try with_reducible rfl)); (try simp only [Act.put, List.getElem_toArray, List.getElem_cons_zero, List.getElem_cons_succ, List.setIfInBounds_toArray, List.set_cons_zero, List.set_cons_succ])); (refine wpAnyH_take (i := 22) (v := ?tv23) rfl (by kernel_rfl) (by kernel_rfl) (by kernel_rfl) (fun _ _ _ h => h) (Or.inl ⟨by kernel_rfl, ?thy23⟩) (by assumption) ?trest23; case thy23 => (intro w hSw; (try dsimp only at hSw); go_simp; (try with_reducible rfl)); (try simp only [Act.put, List.getElem_toArray, List.getElem_cons_zero, List.getElem_cons_succ, List.setIfInBounds_toArray, List.set_cons_zero, List.set_cons_succ])); (refine wpAnyH_take (i := 23) (v := ?tv24) rfl (by kernel_rfl) (by kernel_rfl) (by kernel_rfl) (fun _ _ _ h => h) (Or.inl ⟨by kernel_rfl, ?thy24⟩) (by assumption) ?trest24; case thy24 => (intro w hSw; (try dsimp only at hSw); go_simp; (try with_reducible rfl)); (try simp only [Act.put, List.getElem_toArray, List.getElem_cons_zero, List.getElem_cons_succ, List.setIfInBounds_toArray, List.set_cons_zero, List.set_cons_succ]))
          refine wpAnyH_ready (rs := [24]) (by kernel_rfl) (by simp) ?_; refine AllReadyH.cons (i := 24) rfl (fun K hK => ?_) AllReadyH.nil
          go_simp
          refine (hCC.out _).mono ?_; rintro e w11 ⟨rfl, hb11⟩
          have hb11' := below_drew hb11
          have q0 := keepc hb11' s0
          have q1 := keepc hb11' s1
          have q2 := keepc hb11' x0
          have q3 := keepc hb11' c0
          refine hK.out _ _ ⟨q0, q1, q3, q2⟩ (fun hHeld => ?_)
          clear hK K
          (try simp only [Act.put, List.getElem_toArray, List.getElem_cons_zero, List.getElem_cons_succ, List.setIfInBounds_toArray, List.set_cons_zero, List.set_cons_succ])
          (refine wpAnyH_take (i := 25) (v := ?tv25) rfl (by kernel_rfl) (by kernel_rfl) (by kernel_rfl) (fun _ _ _ h => h) (Or.inl ⟨by kernel_rfl, ?thy25⟩) (by assumption) ?trest25; case thy25 => (intro w hSw; (try dsimp only at hSw); go_simp; (try with_reducible rfl)); (try simp only [Act.put, List.getElem_toArray, List.getElem_cons_zero, List.getElem_cons_succ, List.setIfInBounds_toArray, List.set_cons_zero, List.set_cons_succ]))
          (refine wpAnyH_take (i := 26) (v := ?tv26) rfl (by kernel_rfl) (by kernel_rfl) (by kernel_rfl) (fun _ _ _ h => h) (Or.inl ⟨by rfl, ?thy26⟩) (by assumption) ?trest26; case thy26 => (intro w hSw; (try dsimp only at hSw); go_simp; (try with_reducible rfl)); (try simp only [Act.put, List.getElem_toArray, List.getElem_cons_zero, List.getElem_cons_succ, List.setIfInBounds_toArray, List.set_cons_zero, List.set_cons_succ])); (refine wpAnyH_take (i := 27) (v := ?tv27) rfl (by kernel_rfl) (by kernel_rfl) (by kernel_rfl) (fun _ _ _ h => h) (Or.inl ⟨by rfl, ?thy27⟩) (by assumption) ?trest27; case thy27 => (intro w hSw; (try dsimp only at hSw); go_simp; (try with_reducible rfl)); (try simp only [Act.put, List.getElem_toArray, List.getElem_cons_zero, List.getElem_cons_succ, List.setIfInBounds_toArray, List.set_cons_zero, List.set_cons_succ]))
          (refine wpAnyH_take (i := 28) (v := ?tv28) rfl (by kernel_rfl) (by kernel_rfl) (by kernel_rfl) (fun _ _ _ h => h) (Or.inl ⟨by kernel_rfl, ?thy28⟩) (by assumption) ?trest28; case thy28 => (intro w hSw; (try dsimp only at hSw); go_simp; (try with_reducible rfl)); (try simp only [Act.put, List.getElem_toArray, List.getElem_cons_zero, List.getElem_cons_succ, List.setIfInBounds_toArray, List.set_cons_zero, List.set_cons_succ])); (refine wpAnyH_take (i := 29) (v := ?tv29) rfl (by kernel_rfl) (by kernel_rfl) (by kernel_rfl) (fun _ _ _ h => h) (Or.inl ⟨by kernel_rfl, ?thy29⟩) (by assumption) ?trest29; case thy29 => (intro w hSw; (try dsimp only at hSw); go_simp; (try with_reducible rfl)); (try simp only [Act.put, List.getElem_toArray, List.getElem_cons_zero, List.getElem_cons_succ, List.setIfInBounds_toArray, List.set_cons_zero, List.set_cons_succ])); (refine wpAnyH_take (i := 30) (v := ?tv30) rfl (by kernel_rfl) (by kernel_rfl) (by kernel_rfl) (fun _ _ _ h => h) (Or.inl ⟨by kernel_rfl, ?thy30⟩) (by assumption) ?trest30; case thy30 => (intro w hSw; (try dsimp only at hSw); go_simp; (try with_reducible rfl)); (try simp only [Act.put, List.getElem_toArray, List.getElem_cons_zero, List.getElem_cons_succ, List.setIfInBounds_toArray, List.set_cons_zero, List.set_cons_succ]))
          (refine wpAnyH_take (i := 31) (v := undef) rfl (by kernel_rfl) (by kernel_rfl) (by kernel_rfl) (fun _ _ _ h => h) (Or.inr ⟨by kernel_rfl, rfl⟩) (by assumption) ?trest31); (try simp only [Act.put, List.getElem_toArray, List.getElem_cons_zero, List.getElem_cons_succ, List.setIfInBounds_toArray, List.set_cons_zero, List.set_cons_succ]); (refine wpAnyH_take (i := 32) (v := undef) rfl (by kernel_rfl) (by kernel_rfl) (by kernel_rfl) (fun _ _ _ h => h) (Or.inr ⟨by kernel_rfl, rfl⟩) (by assumption) ?trest32); (try simp only [Act.put, List.getElem_toArray, List.getElem_cons_zero, List.getElem_cons_succ, List.setIfInBounds_toArray, List.set_cons_zero, List.set_cons_succ]); (refine wpAnyH_take (i := 33) (v := undef) rfl (by kernel_rfl) (by kernel_rfl) (by kernel_rfl) (fun _ _ _ h => h) (Or.inr ⟨by kernel_rfl, rfl⟩) (by assumption) ?trest33); (try simp only [Act.put, List.getElem_toArray, List.getElem_cons_zero, List.getElem_cons_succ, List.setIfInBounds_toArray, List.set_cons_zero, List.set_cons_succ]); (refine wpAnyH_take (i := 34) (v := undef) rfl (by kernel_rfl) (by kernel_rfl) (by kernel_rfl) (fun _ _ _ h => h) (Or.inr ⟨by kernel_rfl, rfl⟩) (by assumption) ?trest34); (try simp only [Act.put, List.getElem_toArray, List.getElem_cons_zero, List.getElem_cons_succ, List.setIfInBounds_toArray, List.set_cons_zero, List.set_cons_succ]); (refine wpAnyH_take (i := 35) (v := undef) rfl (by kernel_rfl) (by kernel_rfl) (by kernel_rfl) (fun _ _ _ h => h) (Or.inr ⟨by kernel_rfl, rfl⟩) (by assumption) ?trest35); (try simp only [Act.put, List.getElem_toArray, List.getElem_cons_zero, List.getElem_cons_succ, List.setIfInBounds_toArray, List.set_cons_zero, List.set_cons_succ]); (refine wpAnyH_take (i := 36) (v := undef) rfl (by kernel_rfl) (by kernel_rfl) (by kernel_rfl) (fun _ _ _ h => h) (Or.inr ⟨by kernel_rfl, rfl⟩) (by assumption) ?trest36); (try simp only [Act.put, List.getElem_toArray, List.getElem_cons_zero, List.getElem_cons_succ, List.setIfInBounds_toArray, List.set_cons_zero, List.set_cons_succ]); (refine wpAnyH_take (i := 37) (v := undef) rfl (by kernel_rfl) (by kernel_rfl) (by kernel_rfl) (fun _ _ _ h => h) (Or.inr ⟨by kernel_rfl, rfl⟩) (by assumption) ?trest37); (try simp only [Act.put, List.getElem_toArray, List.getElem_cons_zero, List.getElem_cons_succ, List.setIfInBounds_toArray, List.set_cons_zero, List.set_cons_succ]); (refine wpAnyH_take (i := 38) (v := undef) rfl (by kernel_rfl) (by kernel_rfl) (by kernel_rfl) (fun _ _ _ h => h) (Or.inr ⟨by kernel_rfl, rfl⟩) (by assumption) ?trest38); (try simp only [Act.put, List.getElem_toArray, List.getElem_cons_zero, List.getElem_cons_succ, List.setIfInBounds_toArray, List.set_cons_zero, List.set_cons_succ]); (refine wpAnyH_take (i := 39) (v := undef) rfl (by kernel_rfl) (by kernel_rfl) (by kernel_rfl) (fun _ _ _ h => h) (Or.inr ⟨by kernel_rfl, rfl⟩) (by assumption) ?trest39); (try simp only [Act.put, List.getElem_toArray, List.getElem_cons_zero, List.getElem_cons_succ, List.setIfInBounds_toArray, List.set_cons_zero, List.set_cons_succ]); (refine wpAnyH_take (i := 40) (v := undef) rfl (by kernel_rfl) (by kernel_rfl) (by kernel_rfl) (fun _ _ _ h => h) (Or.inr ⟨by kernel_rfl, rfl⟩) (by assumption) ?trest40); (try simp only [Act.put, List.getElem_toArray, List.getElem_cons_zero, List.getElem_cons_succ, List.setIfInBounds_toArray, List.set_cons_zero, List.set_cons_succ])
          (refine wpAnyH_take (i := 41) (v := ?tv41) rfl (by kernel_rfl) (by kernel_rfl) (by kernel_rfl) (fun _ _ _ h => h) (Or.inl ⟨by kernel_rfl, ?thy41⟩) (by assumption) ?trest41; case thy41 => (intro w hSw; (try dsimp only at hSw); go_simp; (try with_reducible rfl)); (try simp only [Act.put, List.getElem_toArray, List.getElem_cons_zero, List.getElem_cons_succ, List.setIfInBounds_toArray, List.set_cons_zero, List.set_cons_succ]))
          (refine wpAnyH_take (i := 42) (v := ?tv42) rfl (by kernel_rfl) (by kernel_rfl) (by kernel_rfl) (fun _ _ _ h => h) (Or.inl ⟨by rfl, ?thy42⟩) (by assumption) ?trest42; case thy42 => (intro w hSw; (try dsimp only at hSw); go_simp; (try with_reducible rfl)); (try simp only [Act.put, List.getElem_toArray, List.getElem_cons_zero, List.getElem_cons_succ, List.setIfInBounds_toArray, List.set_cons_zero, List.set_cons_succ]))
          refine wpAnyH_done (by kernel_rfl) ?_ _
          refine NoPanic.normal ?_
          go_wp2
          go_roundw
          case rel => exact ⟨0 + 1, by omega, by go_num, B10.tr hb11'⟩
          case measure => simp [intOf]; omega
        · obtain ⟨b', off', hbe, hcell'⟩ := HT8.out j (by omega)
          cases hbe
          have xp := keepc B10 hcell'
          have hup := HUP.out j (by omega)
          rw [ht.out] at hup
          obtain ⟨t', ht'⟩ : ∃ t', Hid (T.getD j 0 = t') := ⟨_, Lib.hid rfl⟩
          rw [ht'.out] at xp hup
          have td : decide (t ≤ t') = false := by simp; omega
          have tk : decide ((0 : Int) < ((j + 1 : Nat) : Int)) = true := by simp; (try omega)
          have tk2 : decide ((0 : Int) < (j : Int) + 1) = true := by simp; (try omega)
          have hwj : IntKind.i64.wrap (((j + 1 : Nat) : Int) - 1) = (j : Int) := by rw [show ((j + 1 : Nat) : Int) - 1 = (j : Int) by omega]; exact wraps_i64 _ (by omega) (by omega)
          have hwj2 : IntKind.i64.wrap ((j : Int) + 1 - 1) = (j : Int) := by rw [show (j : Int) + 1 - 1 = (j : Int) by omega]; exact wraps_i64 _ (by omega) (by omega)
          have hj0 : (0 : Int) ≤ (j : Int) := by omega
          have hj1 : (j : Int) < (T.length : Int) := by omega
          have hj2 : (j : Int) + 1 < (T.length : Int) := by omega
          have hj3 : (0 : Int) ≤ (j : Int) + 1 := by omega
          have hwj3 : IntKind.i64.wrap (j : Int) = (j : Int) := wraps_i64 _ (by omega) (by omega)
          have hj4 : (0 : Int) ≤ (j : Int) + 1 - 1 := by omega
          have hj5 : (j : Int) + 1 - 1 < (T.length : Int) := by omega
          have hj6 : (j : Int) + 1 - 1 = (j : Int) := by omega
          rw [show ((j + 1 : Nat) : Int) = (j : Int) + 1 by omega]
          go_wp2_with fail
          go_region_held3 (fun w' => w'.cell? ⟨g, 0, none⟩ = some (.int .i64 H) ∧ w'.cell? ⟨g, 1, none⟩ = some (.int .i64 m) ∧ w'.cell? ⟨G, 0, none⟩ = some (.int .i64 H) ∧ w'.cell? ⟨b, off + (j + 1), none⟩ = some (.int .i64 t) ∧ w'.cell? ⟨b, off + j, none⟩ = some (.int .i64 t'))
            (go_keep)
            (first | ((go_at_call 31; refine (hCC.out _).mono ?_; rintro e w11 ⟨rfl, hb11⟩; have hb11' := below_drew hb11; have q0 := keepc hb11' s0; have q1 := keepc hb11' s1; have q2 := keepc hb11' x0; have q3 := keepc hb11' c0; have q4 := keepc hb11' xp)))
          go_wp2
          go_roundw
          case rel => exact ⟨j + 1 + 1, by omega, by go_num, B10.tr hb11'⟩
          case measure => simp [intOf]; omega
      · have s0 := keepc B9 s0
        have s1 := keepc B9 s1
        have x0 := keepc B9 x0
        clear q0 q1 q2
        go_wp2_with fail
        refine (c_spec_PropsIn H M _ hvn).mono ?_; rintro e w10 ⟨rfl, hb10⟩
        rw [hpn]
        have s0 := keepc hb10 s0
        have s1 := keepc hb10 s1
        have x0 := keepc hb10 x0
        have c0 := keepc hb10 c0
        have c1 := keepc hb10 c1
        have B10 := BR.tr (B9.tr hb10)
        have tN : (N != N) = false := by simp
        have tH : (H != H) = false := by simp
        have hCC : Hid (∀ w9, Calls Try.prog 31 #[.agg #[.int .i64 H, .int .i64 m], .int .i64 t] w9 fun e w' => e = .returned (.bool true) ∧ Below w9.heap.size w9 w') := fun w9 => by
          have h := c_impl_CanThrow H m t w9 HV.out
          rw [hcan] at h
          exact h
        rcases k with _ | j
        · rw [Nat.add_zero] at x0
          rw [show ((0 : Nat) : Int) = 0 from rfl]
          have hp1 : (0 : Int) < (T.length : Int) := by omega
          go_wp2_with fail
          refine wp_region_noPanic ?_
          refine wp_region_held_drew (S := fun w' => w'.cell? ⟨g, 0, none⟩ = some (.int .i64 H) ∧ w'.cell? ⟨g, 1, none⟩ = some (.int .i64 m) ∧ w'.cell? ⟨G, 0, none⟩ = some (.int .i64 H) ∧ w'.cell? ⟨b, off, none⟩ = some (.int .i64 t)) (by kernel_rfl) ?_ (fun hHeld => ?_)
          · exact ⟨s0, s1, c0, x0⟩
          (refine wpAnyH_take (i := 0) (v := ?tv43) rfl (by kernel_rfl) (by kernel_rfl) (by kernel_rfl) (fun _ _ _ h => h) (Or.inl ⟨by rfl, ?thy43⟩) (by assumption) ?trest43; case thy43 => (intro w hSw; (try dsimp only at hSw); go_simp; (try with_reducible rfl)); (try simp only [Act.put, List.getElem_toArray, List.getElem_cons_zero, List.getElem_cons_succ, List.setIfInBounds_toArray, List.set_cons_zero, List.set_cons_succ])); (refine wpAnyH_take (i := 1) (v := ?tv44) rfl (by kernel_rfl) (by kernel_rfl) (by kernel_rfl) (fun _ _ _ h => h) (Or.inl ⟨by rfl, ?thy44⟩) (by assumption) ?trest44; case thy44 => (intro w hSw; (try dsimp only at hSw); go_simp; (try with_reducible rfl)); (try simp only [Act.put, List.getElem_toArray, List.getElem_cons_zero, List.getElem_cons_succ, List.setIfInBounds_toArray, List.set_cons_zero, List.set_cons_succ])); (refine wpAnyH_take (i := 2) (v := ?tv45) rfl (by kernel_rfl) (by kernel_rfl) (by kernel_rfl) (fun _ _ _ h => h) (Or.inl ⟨by rfl, ?thy45⟩) (by assumption) ?trest45; case thy45 => (intro w hSw; (try dsimp only at hSw); go_simp; (try with_reducible rfl)); (try simp only [Act.put, List.getElem_toArray, List.getElem_cons_zero, List.getElem_cons_succ, List.setIfInBounds_toArray, List.set_cons_zero, List.set_cons_succ]))
          (refine wpAnyH_take (i := 3) (v := ?tv46) rfl (by kernel_rfl) (by kernel_rfl) (by kernel_rfl) (fun _ _ _ h => h) (Or.inl ⟨by kernel_rfl, ?thy46⟩) (by assumption) ?trest46; case thy46 => (intro w hSw; (try dsimp only at hSw); go_simp; (try with_reducible rfl)); (try simp only [Act.put, List.getElem_toArray, List.getElem_cons_zero, List.getElem_cons_succ, List.setIfInBounds_toArray, List.set_cons_zero, List.set_cons_succ])); (refine wpAnyH_take (i := 4) (v := ?tv47) rfl (by kernel_rfl) (by kernel_rfl) (by kernel_rfl) (fun _ _ _ h => h) (Or.inl ⟨by kernel_rfl, ?thy47⟩) (by assumption) ?trest47; case thy47 => (intro w hSw; (try dsimp only at hSw); go_simp; (try with_reducible rfl)); (try simp only [Act.put, List.getElem_toArray, List.getElem_cons_zero, List.getElem_cons_succ, List.setIfInBounds_toArray, List.set_cons_zero, List.set_cons_succ]))
          (refine wpAnyH_take (i := 5) (v := ?tv48) rfl (by kernel_rfl) (by kernel_rfl) (by kernel_rfl) (fun _ _ _ h => h) (Or.inl ⟨by rfl, ?thy48⟩) (by assumption) ?trest48; case thy48 => (intro w hSw; (try dsimp only at hSw); go_simp; (try with_reducible rfl)); (try simp only [Act.put, List.getElem_toArray, List.getElem_cons_zero, List.getElem_cons_succ, List.setIfInBounds_toArray, List.set_cons_zero, List.set_cons_succ])); (refine wpAnyH_take (i := 6) (v := ?tv49) rfl (by kernel_rfl) (by kernel_rfl) (by kernel_rfl) (fun _ _ _ h => h) (Or.inl ⟨by rfl, ?thy49⟩) (by assumption) ?trest49; case thy49 => (intro w hSw; (try dsimp only at hSw); go_simp; (try with_reducible rfl)); (try simp only [Act.put, List.getElem_toArray, List.getElem_cons_zero, List.getElem_cons_succ, List.setIfInBounds_toArray, List.set_cons_zero, List.set_cons_succ]))
          (refine wpAnyH_take (i := 7) (v := ?tv50) rfl (by kernel_rfl) (by kernel_rfl) (by kernel_rfl) (fun _ _ _ h => h) (Or.inl ⟨by kernel_rfl, ?thy50⟩) (by assumption) ?trest50; case thy50 => (intro w hSw; (try dsimp only at hSw); go_simp; (try with_reducible rfl)); (try simp only [Act.put, List.getElem_toArray, List.getElem_cons_zero, List.getElem_cons_succ, List.setIfInBounds_toArray, List.set_cons_zero, List.set_cons_succ])); (refine wpAnyH_take (i := 8) (v := ?tv51) rfl (by kernel_rfl) (by kernel_rfl) (by kernel_rfl) (fun _ _ _ h => h) (Or.inl ⟨by kernel_rfl, ?thy51⟩) (by assumption) ?trest51; case thy51 => (intro w hSw; (try dsimp only at hSw); go_simp; (try with_reducible rfl)); (try simp only [Act.put, List.getElem_toArray, List.getElem_cons_zero, List.getElem_cons_succ, List.setIfInBounds_toArray, List.set_cons_zero, List.set_cons_succ])); (refine wpAnyH_take (i := 9) (v := ?tv52) rfl (by kernel_rfl) (by kernel_rfl) (by kernel_rfl) (fun _ _ _ h => h) (Or.inl ⟨by kernel_rfl, ?thy52⟩) (by assumption) ?trest52; case thy52 => (intro w hSw; (try dsimp only at hSw); go_simp; (try with_reducible rfl)); (try simp only [Act.put, List.getElem_toArray, List.getElem_cons_zero, List.getElem_cons_succ, List.setIfInBounds_toArray, List.set_cons_zero, List.set_cons_succ]))
          (refine wpAnyH_take (i := 10) (v := ?tv53) rfl (by kernel_rfl) (by kernel_rfl) (by kernel_rfl) (fun _ _ _ h => h) (Or.inl ⟨by rfl, ?thy53⟩) (by assumption) ?trest53; case thy53 => (intro w hSw; (try dsimp only at hSw); go_simp; (try with_reducible rfl)); (try simp only [Act.put, List.getElem_toArray, List.getElem_cons_zero, List.getElem_cons_succ, List.setIfInBounds_toArray, List.set_cons_zero, List.set_cons_succ])); (refine wpAnyH_take (i := 11) (v := ?tv54) rfl (by kernel_rfl) (by kernel_rfl) (by kernel_rfl) (fun _ _ _ h => h) (Or.inl ⟨by rfl, ?thy54⟩) (by assumption) ?trest54; case thy54 => (intro w hSw; (try dsimp only at hSw); go_simp; (try with_reducible rfl)); (try simp only [Act.put, List.getElem_toArray, List.getElem_cons_zero, List.getElem_cons_succ, List.setIfInBounds_toArray, List.set_cons_zero, List.set_cons_succ]))
          (refine wpAnyH_take (i := 12) (v := ?tv55) rfl (by kernel_rfl) (by kernel_rfl) (by kernel_rfl) (fun _ _ _ h => h) (Or.inl ⟨by kernel_rfl, ?thy55⟩) (by assumption) ?trest55; case thy55 => (intro w hSw; (try dsimp only at hSw); go_simp; (try with_reducible rfl)); (try simp only [Act.put, List.getElem_toArray, List.getElem_cons_zero, List.getElem_cons_succ, List.setIfInBounds_toArray, List.set_cons_zero, List.set_cons_succ])); (refine wpAnyH_take (i := 13) (v := ?tv56) rfl (by kernel_rfl) (by kernel_rfl) (by kernel_rfl) (fun _ _ _ h => h) (Or.inl ⟨by kernel_rfl, ?thy56⟩) (by assumption) ?trest56; case thy56 => (intro w hSw; (try dsimp only at hSw); go_simp; (try with_reducible rfl)); (try simp only [Act.put, List.getElem_toArray, List.getElem_cons_zero, List.getElem_cons_succ, List.setIfInBounds_toArray, List.set_cons_zero, List.set_cons_succ])); (refine wpAnyH_take (i := 14) (v := ?tv57) rfl (by kernel_rfl) (by kernel_rfl) (by kernel_rfl) (fun _ _ _ h => h) (Or.inl ⟨by kernel_rfl, ?thy57⟩) (by assumption) ?trest57; case thy57 => (intro w hSw; (try dsimp only at hSw); go_simp; (try with_reducible rfl)); (try simp only [Act.put, List.getElem_toArray, List.getElem_cons_zero, List.getElem_cons_succ, List.setIfInBounds_toArray, List.set_cons_zero, List.set_cons_succ])); (refine wpAnyH_take (i := 15) (v := ?tv58) rfl (by kernel_rfl) (by kernel_rfl) (by kernel_rfl) (fun _ _ _ h => h) (Or.inl ⟨by kernel_rfl, ?thy58⟩) (by assumption) ?trest58; case thy58 => (intro w hSw; (try dsimp only at hSw); go_simp; (try with_reducible rfl)); (try simp only [Act.put, List.getElem_toArray, List.getElem_cons_zero, List.getElem_cons_succ, List.setIfInBounds_toArray, List.set_cons_zero, List.set_cons_succ])); (refine wpAnyH_take (i := 16) (v := ?tv59) rfl (by kernel_rfl) (by kernel_rfl) (by kernel_rfl) (fun _ _ _ h => h) (Or.inl ⟨by kernel_rfl, ?thy59⟩) (by assumption) ?trest59; case thy59 => (intro w hSw; (try dsimp only at hSw); go_simp; (try with_reducible rfl)); (try simp only [Act.put, List.getElem_toArray, List.getElem_cons_zero, List.getElem_cons_succ, List.setIfInBounds_toArray, List.set_cons_zero, List.set_cons_succ]))
          (refine wpAnyH_take (i := 17) (v := ?tv60) rfl (by kernel_rfl) (by kernel_rfl) (by kernel_rfl) (fun _ _ _ h => h) (Or.inl ⟨by rfl, ?thy60⟩) (by assumption) ?trest60; case thy60 => (intro w hSw; (try dsimp only at hSw); go_simp; (try with_reducible rfl)); (try simp only [Act.put, List.getElem_toArray, List.getElem_cons_zero, List.getElem_cons_succ, List.setIfInBounds_toArray, List.set_cons_zero, List.set_cons_succ])); (refine wpAnyH_take (i := 18) (v := ?tv61) rfl (by kernel_rfl) (by kernel_rfl) (by kernel_rfl) (fun _ _ _ h => h) (Or.inl ⟨by rfl, ?thy61⟩) (by assumption) ?trest61; case thy61 => (intro w hSw; (try dsimp only at hSw); go_simp; (try with_reducible rfl)); (try simp only [Act.put, List.getElem_toArray, List.getElem_cons_zero, List.getElem_cons_succ, List.setIfInBounds_toArray, List.set_cons_zero, List.set_cons_succ]))
          (refine wpAnyH_take (i := 19) (v := ?tv62) rfl (by kernel_rfl) (by kernel_rfl) (by kernel_rfl) (fun _ _ _ h => h) (Or.inl ⟨by kernel_rfl, ?thy62⟩) (by assumption) ?trest62; case thy62 => (intro w hSw; (try dsimp only at hSw); go_simp; (try with_reducible rfl)); (try simp only [Act.put, List.getElem_toArray, List.getElem_cons_zero, List.getElem_cons_succ, List.setIfInBounds_toArray, List.set_cons_zero, List.set_cons_succ])); (refine wpAnyH_take (i := 20) (v := ?tv63) rfl (by kernel_rfl) (by kernel_rfl) (by kernel_rfl) (fun _ _ _ h => h) (Or.inl ⟨by kernel_rfl, ?thy63⟩) (by assumption) ?trest63; case thy63 => (intro w hSw; (try dsimp only at hSw); go_simp; (try with_reducible rfl)); (try simp only [Act.put, List.getElem_toArray, List.getElem_cons_zero, List.getElem_cons_succ, List.setIfInBounds_toArray, List.set_cons_zero, List.set_cons_succ])); (refine wpAnyH_take (i := 21) (v := ?tv64) rfl (by kernel_rfl) (by kernel_rfl) (by kernel_rfl) (fun _ _ _ h => h) (Or.inl ⟨by kernel_rfl, ?thy64⟩) (by assumption) ?trest64; case thy64 => (intro w hSw; (try dsimp only at hSw); go_simp; (try with_reducible rfl)); (try simp only [Act.put, List.getElem_toArray, List.getElem_cons_zero, List.getElem_cons_succ, List.setIfInBounds_toArray, List.set_cons_zero, List.set_cons_succ])); (refine wpAnyH_take (i := 22) (v := ?tv65) rfl (by kernel_rfl) (by kernel_rfl) (by kernel_rfl) (fun _ _ _ h => h) (Or.inl ⟨by kernel_rfl, ?thy65⟩) (by assumption) ?trest65; case thy65 => (intro w hSw; (try dsimp only at hSw); go_simp; (try with_reducible rfl)); (try simp only [Act.put, List.getElem_toArray, List.getElem_cons_zero, List.getElem_cons_succ, List.setIfInBounds_toArray, List.set_cons_zero, List.set_cons_succ])); (refine wpAnyH_take (i := 23) (v := ?tv66) rfl (by kernel_rfl) (by kernel_rfl) (by kernel_rfl) (fun _ _ _ h => h) (Or.inl ⟨by kernel_rfl, ?thy66⟩) (by assumption) ?trest66; case thy66 => (intro w hSw; (try dsimp only at hSw); go_simp; (try with_reducible rfl)); (try simp only [Act.put, List.getElem_toArray, List.getElem_cons_zero, List.getElem_cons_succ, List.setIfInBounds_toArray, List.set_cons_zero, List.set_cons_succ]))
          refine wpAnyH_ready (rs := [24]) (by kernel_rfl) (by simp) ?_; refine AllReadyH.cons (i := 24) rfl (fun K hK => ?_) AllReadyH.nil
          go_simp
          refine (hCC.out _).mono ?_; rintro e w11 ⟨rfl, hb11⟩
          have hb11' := below_drew hb11
          have q0 := keepc hb11' s0
          have q1 := keepc hb11' s1
          have q2 := keepc hb11' x0
          have q3 := keepc hb11' c0
          refine hK.out _ _ ⟨q0, q1, q3, q2⟩ (fun hHeld => ?_)
          clear hK K
          (try simp only [Act.put, List.getElem_toArray, List.getElem_cons_zero, List.getElem_cons_succ, List.setIfInBounds_toArray, List.set_cons_zero, List.set_cons_succ])
          (refine wpAnyH_take (i := 25) (v := ?tv67) rfl (by kernel_rfl) (by kernel_rfl) (by kernel_rfl) (fun _ _ _ h => h) (Or.inl ⟨by kernel_rfl, ?thy67⟩) (by assumption) ?trest67; case thy67 => (intro w hSw; (try dsimp only at hSw); go_simp; (try with_reducible rfl)); (try simp only [Act.put, List.getElem_toArray, List.getElem_cons_zero, List.getElem_cons_succ, List.setIfInBounds_toArray, List.set_cons_zero, List.set_cons_succ]))
          (refine wpAnyH_take (i := 26) (v := ?tv68) rfl (by kernel_rfl) (by kernel_rfl) (by kernel_rfl) (fun _ _ _ h => h) (Or.inl ⟨by rfl, ?thy68⟩) (by assumption) ?trest68; case thy68 => (intro w hSw; (try dsimp only at hSw); go_simp; (try with_reducible rfl)); (try simp only [Act.put, List.getElem_toArray, List.getElem_cons_zero, List.getElem_cons_succ, List.setIfInBounds_toArray, List.set_cons_zero, List.set_cons_succ])); (refine wpAnyH_take (i := 27) (v := ?tv69) rfl (by kernel_rfl) (by kernel_rfl) (by kernel_rfl) (fun _ _ _ h => h) (Or.inl ⟨by rfl, ?thy69⟩) (by assumption) ?trest69; case thy69 => (intro w hSw; (try dsimp only at hSw); go_simp; (try with_reducible rfl)); (try simp only [Act.put, List.getElem_toArray, List.getElem_cons_zero, List.getElem_cons_succ, List.setIfInBounds_toArray, List.set_cons_zero, List.set_cons_succ]))
          (refine wpAnyH_take (i := 28) (v := ?tv70) rfl (by kernel_rfl) (by kernel_rfl) (by kernel_rfl) (fun _ _ _ h => h) (Or.inl ⟨by kernel_rfl, ?thy70⟩) (by assumption) ?trest70; case thy70 => (intro w hSw; (try dsimp only at hSw); go_simp; (try with_reducible rfl)); (try simp only [Act.put, List.getElem_toArray, List.getElem_cons_zero, List.getElem_cons_succ, List.setIfInBounds_toArray, List.set_cons_zero, List.set_cons_succ])); (refine wpAnyH_take (i := 29) (v := ?tv71) rfl (by kernel_rfl) (by kernel_rfl) (by kernel_rfl) (fun _ _ _ h => h) (Or.inl ⟨by kernel_rfl, ?thy71⟩) (by assumption) ?trest71; case thy71 => (intro w hSw; (try dsimp only at hSw); go_simp; (try with_reducible rfl)); (try simp only [Act.put, List.getElem_toArray, List.getElem_cons_zero, List.getElem_cons_succ, List.setIfInBounds_toArray, List.set_cons_zero, List.set_cons_succ])); (refine wpAnyH_take (i := 30) (v := ?tv72) rfl (by kernel_rfl) (by kernel_rfl) (by kernel_rfl) (fun _ _ _ h => h) (Or.inl ⟨by kernel_rfl, ?thy72⟩) (by assumption) ?trest72; case thy72 => (intro w hSw; (try dsimp only at hSw); go_simp; (try with_reducible rfl)); (try simp only [Act.put, List.getElem_toArray, List.getElem_cons_zero, List.getElem_cons_succ, List.setIfInBounds_toArray, List.set_cons_zero, List.set_cons_succ]))
          (refine wpAnyH_take (i := 31) (v := undef) rfl (by kernel_rfl) (by kernel_rfl) (by kernel_rfl) (fun _ _ _ h => h) (Or.inr ⟨by kernel_rfl, rfl⟩) (by assumption) ?trest73); (try simp only [Act.put, List.getElem_toArray, List.getElem_cons_zero, List.getElem_cons_succ, List.setIfInBounds_toArray, List.set_cons_zero, List.set_cons_succ]); (refine wpAnyH_take (i := 32) (v := undef) rfl (by kernel_rfl) (by kernel_rfl) (by kernel_rfl) (fun _ _ _ h => h) (Or.inr ⟨by kernel_rfl, rfl⟩) (by assumption) ?trest74); (try simp only [Act.put, List.getElem_toArray, List.getElem_cons_zero, List.getElem_cons_succ, List.setIfInBounds_toArray, List.set_cons_zero, List.set_cons_succ]); (refine wpAnyH_take (i := 33) (v := undef) rfl (by kernel_rfl) (by kernel_rfl) (by kernel_rfl) (fun _ _ _ h => h) (Or.inr ⟨by kernel_rfl, rfl⟩) (by assumption) ?trest75); (try simp only [Act.put, List.getElem_toArray, List.getElem_cons_zero, List.getElem_cons_succ, List.setIfInBounds_toArray, List.set_cons_zero, List.set_cons_succ]); (refine wpAnyH_take (i := 34) (v := undef) rfl (by kernel_rfl) (by kernel_rfl) (by kernel_rfl) (fun _ _ _ h => h) (Or.inr ⟨by kernel_rfl, rfl⟩) (by assumption) ?trest76); (try simp only [Act.put, List.getElem_toArray, List.getElem_cons_zero, List.getElem_cons_succ, List.setIfInBounds_toArray, List.set_cons_zero, List.set_cons_succ]); (refine wpAnyH_take (i := 35) (v := undef) rfl (by kernel_rfl) (by kernel_rfl) (by kernel_rfl) (fun _ _ _ h => h) (Or.inr ⟨by kernel_rfl, rfl⟩) (by assumption) ?trest77); (try simp only [Act.put, List.getElem_toArray, List.getElem_cons_zero, List.getElem_cons_succ, List.setIfInBounds_toArray, List.set_cons_zero, List.set_cons_succ]); (refine wpAnyH_take (i := 36) (v := undef) rfl (by kernel_rfl) (by kernel_rfl) (by kernel_rfl) (fun _ _ _ h => h) (Or.inr ⟨by kernel_rfl, rfl⟩) (by assumption) ?trest78); (try simp only [Act.put, List.getElem_toArray, List.getElem_cons_zero, List.getElem_cons_succ, List.setIfInBounds_toArray, List.set_cons_zero, List.set_cons_succ]); (refine wpAnyH_take (i := 37) (v := undef) rfl (by kernel_rfl) (by kernel_rfl) (by kernel_rfl) (fun _ _ _ h => h) (Or.inr ⟨by kernel_rfl, rfl⟩) (by assumption) ?trest79); (try simp only [Act.put, List.getElem_toArray, List.getElem_cons_zero, List.getElem_cons_succ, List.setIfInBounds_toArray, List.set_cons_zero, List.set_cons_succ]); (refine wpAnyH_take (i := 38) (v := undef) rfl (by kernel_rfl) (by kernel_rfl) (by kernel_rfl) (fun _ _ _ h => h) (Or.inr ⟨by kernel_rfl, rfl⟩) (by assumption) ?trest80); (try simp only [Act.put, List.getElem_toArray, List.getElem_cons_zero, List.getElem_cons_succ, List.setIfInBounds_toArray, List.set_cons_zero, List.set_cons_succ]); (refine wpAnyH_take (i := 39) (v := undef) rfl (by kernel_rfl) (by kernel_rfl) (by kernel_rfl) (fun _ _ _ h => h) (Or.inr ⟨by kernel_rfl, rfl⟩) (by assumption) ?trest81); (try simp only [Act.put, List.getElem_toArray, List.getElem_cons_zero, List.getElem_cons_succ, List.setIfInBounds_toArray, List.set_cons_zero, List.set_cons_succ]); (refine wpAnyH_take (i := 40) (v := undef) rfl (by kernel_rfl) (by kernel_rfl) (by kernel_rfl) (fun _ _ _ h => h) (Or.inr ⟨by kernel_rfl, rfl⟩) (by assumption) ?trest82); (try simp only [Act.put, List.getElem_toArray, List.getElem_cons_zero, List.getElem_cons_succ, List.setIfInBounds_toArray, List.set_cons_zero, List.set_cons_succ])
          (refine wpAnyH_take (i := 41) (v := ?tv83) rfl (by kernel_rfl) (by kernel_rfl) (by kernel_rfl) (fun _ _ _ h => h) (Or.inl ⟨by kernel_rfl, ?thy83⟩) (by assumption) ?trest83; case thy83 => (intro w hSw; (try dsimp only at hSw); go_simp; (try with_reducible rfl)); (try simp only [Act.put, List.getElem_toArray, List.getElem_cons_zero, List.getElem_cons_succ, List.setIfInBounds_toArray, List.set_cons_zero, List.set_cons_succ]))
          (refine wpAnyH_take (i := 42) (v := ?tv84) rfl (by kernel_rfl) (by kernel_rfl) (by kernel_rfl) (fun _ _ _ h => h) (Or.inl ⟨by rfl, ?thy84⟩) (by assumption) ?trest84; case thy84 => (intro w hSw; (try dsimp only at hSw); go_simp; (try with_reducible rfl)); (try simp only [Act.put, List.getElem_toArray, List.getElem_cons_zero, List.getElem_cons_succ, List.setIfInBounds_toArray, List.set_cons_zero, List.set_cons_succ]))
          refine wpAnyH_done (by kernel_rfl) ?_ _
          refine NoPanic.normal ?_
          go_wp2
          go_roundw
          case rel => exact ⟨0 + 1, by omega, by go_num, B10.tr hb11'⟩
          case measure => simp [intOf]; omega
        · obtain ⟨b', off', hbe, hcell'⟩ := HT8.out j (by omega)
          cases hbe
          have xp := keepc B10 hcell'
          have hup := HUP.out j (by omega)
          rw [ht.out] at hup
          obtain ⟨t', ht'⟩ : ∃ t', Hid (T.getD j 0 = t') := ⟨_, Lib.hid rfl⟩
          rw [ht'.out] at xp hup
          have td : decide (t ≤ t') = false := by simp; omega
          have tk : decide ((0 : Int) < ((j + 1 : Nat) : Int)) = true := by simp; (try omega)
          have tk2 : decide ((0 : Int) < (j : Int) + 1) = true := by simp; (try omega)
          have hwj : IntKind.i64.wrap (((j + 1 : Nat) : Int) - 1) = (j : Int) := by rw [show ((j + 1 : Nat) : Int) - 1 = (j : Int) by omega]; exact wraps_i64 _ (by omega) (by omega)
          have hwj2 : IntKind.i64.wrap ((j : Int) + 1 - 1) = (j : Int) := by rw [show (j : Int) + 1 - 1 = (j : Int) by omega]; exact wraps_i64 _ (by omega) (by omega)
          have hj0 : (0 : Int) ≤ (j : Int) := by omega
          have hj1 : (j : Int) < (T.length : Int) := by omega
          have hj2 : (j : Int) + 1 < (T.length : Int) := by omega
          have hj3 : (0 : Int) ≤ (j : Int) + 1 := by omega
          have hwj3 : IntKind.i64.wrap (j : Int) = (j : Int) := wraps_i64 _ (by omega) (by omega)
          have hj4 : (0 : Int) ≤ (j : Int) + 1 - 1 := by omega
          have hj5 : (j : Int) + 1 - 1 < (T.length : Int) := by omega
          have hj6 : (j : Int) + 1 - 1 = (j : Int) := by omega
          rw [show ((j + 1 : Nat) : Int) = (j : Int) + 1 by omega]
          go_wp2_with fail
          go_region_held3 (fun w' => w'.cell? ⟨g, 0, none⟩ = some (.int .i64 H) ∧ w'.cell? ⟨g, 1, none⟩ = some (.int .i64 m) ∧ w'.cell? ⟨G, 0, none⟩ = some (.int .i64 H) ∧ w'.cell? ⟨b, off + (j + 1), none⟩ = some (.int .i64 t) ∧ w'.cell? ⟨b, off + j, none⟩ = some (.int .i64 t'))
            (go_keep)
            (first | ((go_at_call 31; refine (hCC.out _).mono ?_; rintro e w11 ⟨rfl, hb11⟩; have hb11' := below_drew hb11; have q0 := keepc hb11' s0; have q1 := keepc hb11' s1; have q2 := keepc hb11' x0; have q3 := keepc hb11' c0; have q4 := keepc hb11' xp)))
          go_wp2
          go_roundw
          case rel => exact ⟨j + 1 + 1, by omega, by go_num, B10.tr hb11'⟩
          case measure => simp [intOf]; omega
    · obtain rfl : k = T.length := by omega
      have s0 := keepc BR s0'
      have s1 := keepc BR s1'
      have BL := HB8.out.tr BR
      have B10 := B8.tr BR
      clear BR
      go_wp2
      obtain ⟨wL, rfl⟩ : ∃ wL : World, wL = wr := ⟨_, rfl⟩
      go_loopw [17] (fun i wr => ∃ q : Nat, (q : Int) ≤ H + 2 ∧ i = .int .i64 q ∧ Below wL.heap.size wL wr) (fun i _ => (H + 2 - intOf i).toNat)
      case atStart => exact ⟨0, by omega, by go_num, Below.refl _ _⟩
      case round =>
        obtain ⟨q, hq, rfl, BR⟩ := hrel
        have s0 := keepc BR s0
        have s1 := keepc BR s1
        by_cases hlt : (q : Int) ≤ H + 1
        · have tq : decide ((q : Int) ≤ H + 1) = true := by simpa using hlt
          have hCN := Lib.hid (fun w9 => c_impl_NextStateG H m (q : Int) w9 HV.out)
          have hCC := Lib.hid (fun w9 => c_impl_CanThrow H m (q : Int) w9 HV.out)
          obtain ⟨Z1, hZ1⟩ : ∃ Z, Hid ((bif canB H m (q : Int) then H else 0) = Z) := ⟨_, Lib.hid rfl⟩
          obtain ⟨Z2, hZ2⟩ : ∃ Z, Hid ((bif canB H m (q : Int) then nextM m (q : Int) else 0) = Z) := ⟨_, Lib.hid rfl⟩
          rw [hZ1.out, hZ2.out] at hCN
          have hgz : g < wr.heap.size := World.block_lt_of_cell? _ _ s0
          cases hcan : canB H m (q : Int)
          all_goals (
            rw [hcan] at hCN hCC
            go_wp2_with fail
            refine (hCN.out _).mono ?_; rintro e w9 ⟨rfl, hb9⟩
            first | rw [cond_true] | rw [cond_false]
            have s0 := keepc hb9 s0
            have s1 := keepc hb9 s1
            have hgz : g < w9.heap.size := World.block_lt_of_cell? _ _ s0
            have hgn : ¬ w9.heap.size = g := by omega
            go_wp2_with fail
            refine (hCC.out _).mono ?_; rintro e w11 ⟨rfl, hb11⟩
            go_wp2
            go_roundw
            case rel => exact ⟨q + 1, by omega, by go_num, BR.tr ((hb9.al _).tr hb11)⟩
            case measure => simp [intOf]; omega)
        · have tq : decide ((q : Int) ≤ H + 1) = false := by simpa using hlt
          have B12 := B10.tr BR
          have HB1w := Lib.hid (HB1.out.below B12)
          go_wp2_with fail
          refine (c_spec_A2Low cs _ _ HB1w.out).mono ?_; rintro e w13 ⟨vp, p, rfl, rp, hvp, hp7, hb13⟩
          have hln := (validP_iff.1 hvp).1.2
          have hm0 := (mxF_ge 0 p).1
          have hpa : ∀ x ∈ p, x ≤ mxF 0 p + 1 := fun x hx => by have := (mxF_ge 0 p).2.1 x hx; omega
          have hh2 : 1 ≤ mxF 0 p + 1 ∧ mxF 0 p + 1 ≤ 10 := by omega
          have HWK := Lib.hid (run_wk hh2 (stM_mem hvp 0 hh2 hpa) (wk_pat hvp hh2 hpa))
          have HSM := Lib.hid (fun i : Nat => stM_mem hvp (i : Int) hh2 hpa)
          have HSTP := Lib.hid (fun i : Nat => step_st hvp hh2 hpa (i : Int))
          have HSA := Lib.hid (fun k hk => stsL_at (p := p) (h := mxF 0 p + 1) (k := k) hk)
          have HSL := Lib.hid (stsL_len p (mxF 0 p + 1))
          have HAD := Lib.hid (stM_add p 0 (mxF 0 p + 1))
          have HVP := Lib.hid hvp
          have HRP := Lib.hid rp
          obtain ⟨ap, cp, rfl, -, hcp⟩ := rp
          have HCP := Lib.hid hcp
          clear hcp hvp hpa
          have hF8 : mxF 0 p ≤ mxF 0 p + 1 := by omega
          obtain ⟨F, hF⟩ : ∃ F, Hid (mxF 0 p = F) := ⟨_, Lib.hid rfl⟩
          rw [hF.out] at hm0 hp7 hh2 HWK HSM HSTP HSA HSL HAD hF8
          go_wp2_with fail
          refine (c_spec_HighestOf p _ _ HRP.out HVP.out).mono ?_; rintro e w14 ⟨rfl, hb14⟩
          rw [hF.out]
          go_wp2_with fail
          refine (c_impl_StatesOf p (F + 1) _ _ (HRP.out.below hb14) HVP.out hh2 (by rw [hF.out]; exact hF8)).mono ?_; rintro e w15 ⟨u, rfl, ou, hb15⟩
          go_wp2_with fail
          refine (c_spec_PropsOf p _ _ ((HRP.out.below hb14).below hb15) HVP.out).mono ?_; rintro e w16 ⟨rfl, hb16⟩
          obtain ⟨us, cu, rfl, hlu, hcu⟩ := OwnRow.rd (rowS_len (F + 1)) (ou.below hb16)
          have HST : Hid (∀ k, k < p.length → ∃ b off, us = some ⟨b, off, none⟩ ∧ w16.cell? ⟨b, off + k * 2, none⟩ = some (.int .i64 (F + 1)) ∧ w16.cell? ⟨b, off + k * 2 + 1, none⟩ = some (.int .i64 (stM p k (F + 1)))) := fun k hk => by
            obtain ⟨bx, ox, hx, hc⟩ := hcu k (by rw [HSL.out]; exact hk)
            refine ⟨bx, ox, hx, hc 0 _ rfl, ?_⟩
            have h1 := hc 1 _ rfl
            rw [h1, ← HSA.out k hk]; simp [List.getD, HSL.out, hk]
          rw [HSL.out] at hlu
          rw [show (stsL p (F + 1)).length = p.length from HSL.out]
          clear hcu ou
          have B16 := ((B12.tr hb13).tr hb14).tr (hb15.tr hb16)
          have hp0 : 0 < p.length := by omega
          have hpn : ¬ ((p.length : Int) = 0) := by omega
          have tl : ((p.length : Int) != (p.length : Int)) = false := by simp
          have HP16 : Hid (∀ k, k < p.length → ∃ b off, ap = some ⟨b, off, none⟩ ∧ w16.cell? ⟨b, off + k, none⟩ = some (.int .i64 (p.getD k 0))) := fun k hk => by
            obtain ⟨b, off, h1, h2⟩ := HCP.out k hk
            exact ⟨b, off, h1, keepc hb16 (keepc hb15 (keepc hb14 h2))⟩
          go_wp2
          go_loopw [28] (fun i wr => ∃ k : Nat, k ≤ p.length ∧ i = .int .i64 k ∧ Below w16.heap.size w16 wr) (fun i _ => p.length - (intOf i).toNat)
          case atStart => exact ⟨0, by omega, by go_num, Below.refl _ _⟩
          case round =>
            obtain ⟨k, hk, rfl, BQ⟩ := hrel
            by_cases hlt3 : k < p.length
            · obtain ⟨b1, o1, rfl, hx0, hx1⟩ := HST.out k hlt3
              obtain ⟨b2, o2, rfl, hy0⟩ := HP16.out k hlt3
              have hJ := Nat.mod_lt (k + 1) hp0
              obtain ⟨J, hJe⟩ : ∃ J, (k + 1) % p.length = J := ⟨_, rfl⟩
              rw [hJe] at hJ
              obtain ⟨b3, o3, he3, hz0, hz1⟩ := HST.out J hJ
              cases he3
              have htm : ((k : Int) + 1).tmod (p.length : Int) = (J : Int) := by
                rw [Int.tmod_eq_emod_of_nonneg (by omega), ← hJe]
                exact (Int.natCast_emod (k + 1) p.length).symm
              have hsJ : stM p (J : Int) (F + 1) = stM p ((k : Int) + 1) (F + 1) := by
                by_cases e : k + 1 = p.length
                · have hJ0 : J = 0 := by rw [← hJe, e, Nat.mod_self]
                  have := HAD.out
                  rw [show (0 : Int) + (p.length : Int) = (k : Int) + 1 by omega] at this
                  rw [hJ0, this]; rfl
                · have : J = k + 1 := by rw [← hJe, Nat.mod_eq_of_lt (by omega)]
                  rw [this]; congr 1
              rw [hsJ] at hz1
              obtain ⟨hcan, hnx⟩ := HSTP.out k
              have htk : tAt p (k : Int) = p.getD k 0 := by
                unfold tAt
                rw [Int.emod_eq_of_lt (by omega) (by omega)]
                rfl
              rw [htk] at hcan hnx
              have hvk : validB (F + 1) (stM p (k : Int) (F + 1)) = true := valid_of hh2 (mem_maskL.1 (HSM.out k)).1
              have hpk : popI (stM p (k : Int) (F + 1)) = propsP p := (mem_maskL.1 (HSM.out k)).2
              have hCN : Hid (∀ w9, Calls Try.prog 35 #[.agg #[.int .i64 (F + 1), .int .i64 (stM p (k : Int) (F + 1))], .int .i64 (p.getD k 0)] w9 fun e w' => e = .returned (.tuple #[.agg #[.int .i64 (F + 1), .int .i64 (stM p ((k : Int) + 1) (F + 1))], .int .i64 0]) ∧ Below w9.heap.size w9 w') := fun w9 => by
                have h := c_spec_NextStateG (F + 1) (stM p (k : Int) (F + 1)) (p.getD k 0) w9 hvk
                rw [hcan, cond_true, cond_true, cond_true, hnx] at h
                exact h
              obtain ⟨A, hA⟩ : ∃ A, Hid (stM p (k : Int) (F + 1) = A) := ⟨_, Lib.hid rfl⟩
              obtain ⟨A2, hA2⟩ : ∃ A, Hid (stM p ((k : Int) + 1) (F + 1) = A) := ⟨_, Lib.hid rfl⟩
              obtain ⟨t, ht⟩ : ∃ t, Hid (p.getD k 0 = t) := ⟨_, Lib.hid rfl⟩
              rw [hA.out] at hx1 hvk hpk hCN
              rw [hA2.out] at hz1 hCN
              rw [ht.out] at hy0 hCN
              clear hcan hnx hsJ htk
              have hx0 := keepc BQ hx0
              have hx1 := keepc BQ hx1
              have hy0 := keepc BQ hy0
              have hz0 := keepc BQ hz0
              have hz1 := keepc BQ hz1
              have hin0 : (0 : Int) ≤ (k : Int) := by omega
              have hin1 : (k : Int) < (p.length : Int) := by omega
              have hJ0 : (0 : Int) ≤ (J : Int) := by omega
              have hJ1 : (J : Int) < (p.length : Int) := by omega
              obtain ⟨wo, rfl⟩ : ∃ wo : World, wo = wr := ⟨_, rfl⟩
              have nz1 : b1 < wo.heap.size := World.block_lt_of_cell? _ _ hx0
              have nz2 : b2 < wo.heap.size := World.block_lt_of_cell? _ _ hy0
              have nb1 : ¬ wo.heap.size = b1 := by omega
              have nb2 : ¬ wo.heap.size = b2 := by omega
              go_wp2_with fail
              go_region_held3 (fun w' => w'.cell? ⟨b1, o1 + k * 2, none⟩ = some (.int .i64 (F + 1)) ∧ w'.cell? ⟨b1, o1 + k * 2 + 1, none⟩ = some (.int .i64 A) ∧ w'.cell? ⟨b2, o2 + k, none⟩ = some (.int .i64 t))
                (go_keep)
                (first | ((go_at_call 35; refine (hCN.out _).mono ?_; rintro e w9 ⟨rfl, hb9⟩; (first | (have hb9' := below_new hb9; have X2 := box2_drew hb9) | (have hb9' := below_drew hb9)); have q0 := keepc hb9' hx0; have q1 := keepc hb9' hx1; have q2 := keepc hb9' hy0; (try (have z0 := X2.1.1; have z1 := X2.2.1; have y0 := X2.1.2; have y1 := X2.2.2)))))
              all_goals (
                have hq9 := hb9'.size
                first
                | (
                  obtain ⟨W9, hW9⟩ : ∃ W9, W9 = w9.alloc (Obj.cells #[.int .i64 (F + 1), .int .i64 A2] 35) := ⟨_, rfl⟩
                  have c0 : W9.cell? ⟨w9.heap.size, 0, none⟩ = some (.int .i64 (F + 1)) := by rw [hW9]; exact World.cell?_alloc_at _ _ _ _ rfl
                  have c1 : W9.cell? ⟨w9.heap.size, 1, none⟩ = some (.int .i64 A2) := by rw [hW9]; exact World.cell?_alloc_at _ _ _ _ rfl
                  have B9 : Below wo.heap.size wo W9 := by rw [hW9]; exact hb9'.al _
                  rw [← hW9]
                  clear hW9
                  obtain ⟨G, hG⟩ : ∃ G, w9.heap.size = G := ⟨_, rfl⟩
                  have hgG : ¬ G = b1 ∧ ¬ b1 = G := by omega
                  rw [hG] at c0 c1 ⊢)
                | (
                  obtain ⟨X0', X1', -, hgr⟩ := set2 w9 wo.heap.size (.int .i64 (F + 1)) (.int .i64 A2) _ _ z0 z1
                  obtain ⟨W9, hW9⟩ : ∃ W9, W9 = ((w9.setCell ⟨wo.heap.size, 0, none⟩ (.int .i64 (F + 1))).setCell ⟨wo.heap.size, 1, none⟩ (.int .i64 A2)) := ⟨_, rfl⟩
                  have c0 : W9.cell? ⟨wo.heap.size, 0, none⟩ = some (.int .i64 (F + 1)) := by rw [hW9]; exact X0'
                  have c1 : W9.cell? ⟨wo.heap.size, 1, none⟩ = some (.int .i64 A2) := by rw [hW9]; exact X1'
                  have B9 : Below wo.heap.size wo W9 := by rw [hW9]; exact (hb9'.setCell (p := ⟨wo.heap.size, 0, none⟩) (Nat.le_refl _) _).setCell (p := ⟨wo.heap.size, 1, none⟩) (Nat.le_refl _) _
                  rw [← hW9]
                  clear hW9 z0 z1 y0 y1 X0' X1' hgr
                  obtain ⟨G, hG⟩ : ∃ G, wo.heap.size = G := ⟨_, rfl⟩
                  have hgG : ¬ G = b1 ∧ ¬ b1 = G := by omega
                  rw [hG] at c0 c1 ⊢))
              all_goals (
                have x0 := keepc B9 hx0
                have x1 := keepc B9 hx1
                have y0 := keepc B9 hz0
                have y1 := keepc B9 hz1
                clear q0 q1 q2 hx0 hx1 hz0 hz1 hy0
                go_wp2_with fail
                refine (c_spec_PropsIn (F + 1) A _ hvk).mono ?_; rintro e w10 ⟨rfl, hb10⟩
                rw [hpk]
                have y0 := keepc hb10 y0
                have y1 := keepc hb10 y1
                have c0 := keepc hb10 c0
                have c1 := keepc hb10 c1
                have tP : (propsP p != propsP p) = false := by simp
                go_wp2_with fail
                go_quiet (fail)
                go_wp2
                go_roundw
                case rel => exact ⟨k + 1, by omega, by go_num, (BQ.tr (B9.tr hb10)).drN _⟩
                case measure => simp [intOf]; omega)
            · obtain rfl : k = p.length := by omega
              obtain ⟨b1, o1, rfl, hx0, hx1⟩ := HST.out 0 hp0
              rw [Nat.zero_mul, Nat.add_zero] at hx0 hx1
              have hx0 := keepc BQ hx0
              have hx1 := keepc BQ hx1
              have e00 : stM p ((0 : Nat) : Int) (F + 1) = stM p 0 (F + 1) := rfl
              rw [e00] at hx1
              obtain ⟨A, hA⟩ : ∃ A, Hid (stM p 0 (F + 1) = A) := ⟨_, Lib.hid rfl⟩
              rw [hA.out] at hx1 HWK
              have hp1 : (0 : Int) < (p.length : Int) := by omega
              have RP := HRP.out.below (((hb14.tr hb15).tr hb16).tr BQ)
              have nz1 : b1 < wr.heap.size := World.block_lt_of_cell? _ _ hx0
              go_wp2_with fail
              refine (c_impl_RunThrows (F + 1) A p _ _ RP).mono ?_; rintro e w17 ⟨rfl, hb17⟩
              rw [HWK.out.1, HWK.out.2.1, HWK.out.2.2.1, HWK.out.2.2.2]
              have hx0 := keepc hb17 hx0
              have hx1 := keepc hb17 hx1
              have nz2 : b1 < w17.heap.size := World.block_lt_of_cell? _ _ hx0
              have nb : ¬ w17.heap.size = b1 := by omega
              have tpp : ((p.length : Int) == (p.length : Int)) = true := by simp
              have BE := (B16.tr BQ).tr hb17
              obtain ⟨W18, hW18⟩ : ∃ W, W = w17.alloc (Obj.cells #[.int .i64 (F + 1), .int .i64 A] 35) := ⟨_, rfl⟩
              have l0 : W18.cell? ⟨w17.heap.size, 0, none⟩ = some (.int .i64 (F + 1)) := by rw [hW18]; exact World.cell?_alloc_at _ _ _ _ rfl
              have l1 : W18.cell? ⟨w17.heap.size, 1, none⟩ = some (.int .i64 A) := by rw [hW18]; exact World.cell?_alloc_at _ _ _ _ rfl
              have hb18 : Below w17.heap.size w17 W18 := by rw [hW18]; exact (Below.refl _ _).al _
              have x0 := keepc hb18 hx0
              have x1 := keepc hb18 hx1
              have BE8 := BE.tr hb18
              go_wp2_with fail
              rw [← hW18]
              clear hW18 hx0 hx1
              go_quiet (fail)
              go_wp2
              go_ret
              exact ⟨by simp, BE8.drN _⟩
theorem own : ownKnob Try.prog.godebug = none := by kernel_rfl
theorem laidOut : laidOutB Try.prog = true := by kernel_rfl
set_option maxRecDepth 100000 in
theorem lifted (os : Os) (started : os.Started) (H : Type) (enc : TypeId × Value → H) :
    ReturnsInHanded {} Try.checked os 5 .any (Rows.fnStatesSpec.pre6 enc Try.prog Try.f5 Rows.fnStatesRow.domain false) (Rows.fnStatesSpec.post enc Try.prog Try.f5 false true false false) := by
  refine returnsInHanded_of_change (C := Try.checked) own started (by kernel_rfl) Try.func5
    (ChangeSpec.witness6 (enc := enc) (C := Try.checked) false ⟨#[], #[.slice none 0 0, .slice none 0 0], []⟩ 8 (by kernel_rfl) (by kernel_rfl) (by kernel_rfl) (by kernel_rfl)) ?_
  intro W base args ds gs before hval0 hW hcnd _
  have hval : ∀ (j : Nat) t v, Try.f5.params[j]? = some t → args[j]? = some v → Value.okWide Try.prog W .any base t v := hval0
  have hW' := hW
  obtain ⟨p, q, hA0, hV, rfl, hfz, hnd⟩ := hW
  have hA : DataW.TrodAll enc Try.prog W 0 (fun _ => true) true Try.f5.params.toList args.toList ds p := hA0
  rw [Try.params5] at hA hval
  obtain ⟨v0, vs0, d0, ds0, p0, q0, hargs, rfl, rfl, h0, r0⟩ := trodAll_cons hA
  obtain ⟨v1, vs1, d1, ds1, p1, q1, rfl, rfl, rfl, h1, r1⟩ := trodAll_cons r0
  obtain ⟨rfl, rfl, rfl⟩ := trodAll_nil r1
  obtain rfl : args = #[v0, v1] := by cases args; simp_all
  obtain ⟨rfl, rfl⟩ := trodVars_none hV
  have k0 := h0
  have lt0 : ∀ x ∈ p0, x.block < W.heap.size := by obtain ⟨m, hm⟩ := k0; exact DataW.trod_lt m _ _ _ hm
  have a0 := open_bytes (hval 0 22 v0 rfl rfl) h0
  have k1 := h1
  have lt1 : ∀ x ∈ p1, x.block < W.heap.size := by obtain ⟨m, hm⟩ := k1; exact DataW.trod_lt m _ _ _ hm
  have a1 := open_bytes (hval 1 22 v1 rfl rfl) h1
  clear hA0 hval0
  refine (walk v0 v1 W a0 a1).mono fun e W' ⟨he, bel⟩ => ?_
  subst he
  exact ⟨_, rfl, _, _, _, [], _, [], hW', trodAll_mk1 (shut_bool Try.underlying4 _), (trodAll_cons_mk (Below.trod laidOut (by kernel_rfl) (of_decide_eq_true (by kernel_rfl)) k0 bel lt0) (trodAll_cons_mk (Below.trod laidOut (by kernel_rfl) (of_decide_eq_true (by kernel_rfl)) k1 bel lt1) trodAll_mk0)), rfl, bel.frame _, fun h => by cases h⟩
theorem over : Rows.fnStatesRow.holds Try.pinned (OpenSpec.ofChange Rows.fnStatesSpec) :=
  OpenClaim.holds_of_wide 5 Try.f5 rfl rfl rfl rfl rfl rfl rfl ⟨rfl, rfl, rfl, rfl, rfl⟩ rfl rfl rfl rfl rfl (by kernel_rfl) Try.func5 (by kernel_rfl)
    (of_decide_eq_true (by kernel_rfl)) (by unfold Func.isWrapper; first | (rw [if_pos (by decide +kernel)]; kernel_rfl) | (rw [if_neg (by decide +kernel)]; exact ⟨rfl, rfl⟩))
    (fun os started H enc _ => lifted os started H enc)
theorem proved : Rows.FnStatesSaid := over
end fnStates
end Go.Proofs.Ytpcaaohdlcoplaa
