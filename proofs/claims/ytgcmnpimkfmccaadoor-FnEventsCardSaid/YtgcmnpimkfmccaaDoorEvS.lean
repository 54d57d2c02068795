/- Walks: an event is put in its place (the reference). -/
import Derived.Test.YtgcmnpimkfmccaaDoorEvM
import Derived.Test.YtgcmnpimkfmccaaDoorPushN
namespace Go.Proofs.YtgcmnpimkfmccaaDoor
open Go.ChangeShapes Go.WideShapes Go.ChangeAt Go.RowKit Go.Sort
set_option linter.unusedSimpArgs false
set_option linter.unusedVariables false
set_option maxHeartbeats 4000000 in
set_option maxRecDepth 100000 in
theorem c_spec_l26Before (x1 : Int) (x2 : Bool) (x3 x4 y1 : Int) (y2 : Bool) (y3 y4 : Int) (ba oa bb ob : Nat) (w : World)
    (a0 : w.cell? ⟨ba, oa, none⟩ = some (.int .i64 x1)) (a1 : w.cell? ⟨ba, oa + 1, none⟩ = some (.bool x2)) (a2 : w.cell? ⟨ba, oa + 2, none⟩ = some (.int .i64 x3))
    (b0 : w.cell? ⟨bb, ob, none⟩ = some (.int .i64 y1)) (b1 : w.cell? ⟨bb, ob + 1, none⟩ = some (.bool y2)) (b2 : w.cell? ⟨bb, ob + 2, none⟩ = some (.int .i64 y3)) :
    Calls Tryd.prog 50 #[.pointer (some ⟨ba, oa, none⟩), .pointer (some ⟨bb, ob, none⟩)] w fun e w' => e = .returned (.bool (ltE ⟨x1, x2, x3, x4⟩ ⟨y1, y2, y3, y4⟩)) ∧ Below w.heap.size w w' := by
  go_enter Tryd.func50, Tryd.ntmps50
  go_wp2_with fail
  go_region_held3 (fun w' => w'.cell? ⟨ba, oa, none⟩ = some (.int .i64 x1) ∧ w'.cell? ⟨bb, ob, none⟩ = some (.int .i64 y1)) (go_keep) (fail)
  by_cases h1 : x1 = y1
  · have t1 : (x1 != y1) = false := by simp [h1]
    by_cases h3 : x3 = y3
    · have t3 : (x3 != y3) = false := by simp [h3]
      have HL := ltE_c3 (a := ⟨x1, x2, x3, x4⟩) (b := ⟨y1, y2, y3, y4⟩) h1 h3
      clear h1 h3
      go_wp2_with fail
      go_region_held3 (fun w' => w'.cell? ⟨ba, oa + 2, none⟩ = some (.int .i64 x3) ∧ w'.cell? ⟨bb, ob + 2, none⟩ = some (.int .i64 y3)) (go_keep) (fail)
      cases x2 <;> cases y2 <;> (go_wp2; go_ret; exact ⟨by rw [HL.out]; rfl, by (repeat (first | (with_reducible assumption) | (with_reducible exact Below.refl _ _) | (with_reducible refine Below.setCell ?_ (by first | (simp; done) | (simp; omega)) _) | (with_reducible refine Below.al ?_ _) | (with_reducible refine Below.dr ?_) | (with_reducible refine Below.drN ?_ _) | (with_reducible refine Below.tr ?_ (by with_reducible assumption))))⟩)
    · have t3 : (x3 != y3) = true := by simp [h3]
      have HL := ltE_c2 (a := ⟨x1, x2, x3, x4⟩) (b := ⟨y1, y2, y3, y4⟩) h1 h3
      clear h1 h3
      go_wp2_with fail
      go_region_held3 (fun w' => w'.cell? ⟨ba, oa + 2, none⟩ = some (.int .i64 x3) ∧ w'.cell? ⟨bb, ob + 2, none⟩ = some (.int .i64 y3)) (go_keep) (fail)
      go_wp2_with fail
      go_region_held3 (fun w' => w'.cell? ⟨ba, oa + 2, none⟩ = some (.int .i64 x3) ∧ w'.cell? ⟨bb, ob + 2, none⟩ = some (.int .i64 y3)) (go_keep) (fail)
      go_wp2; go_ret; exact ⟨by rw [HL.out]; rfl, by (repeat (first | (with_reducible assumption) | (with_reducible exact Below.refl _ _) | (with_reducible refine Below.setCell ?_ (by first | (simp; done) | (simp; omega)) _) | (with_reducible refine Below.al ?_ _) | (with_reducible refine Below.dr ?_) | (with_reducible refine Below.drN ?_ _) | (with_reducible refine Below.tr ?_ (by with_reducible assumption))))⟩
  · have t1 : (x1 != y1) = true := by simp [h1]
    have HL := ltE_c1 (a := ⟨x1, x2, x3, x4⟩) (b := ⟨y1, y2, y3, y4⟩) h1
    clear h1
    go_wp2_with fail
    go_region_held3 (fun w' => w'.cell? ⟨ba, oa, none⟩ = some (.int .i64 x1) ∧ w'.cell? ⟨bb, ob, none⟩ = some (.int .i64 y1)) (go_keep) (fail)
    go_wp2; go_ret; exact ⟨by rw [HL.out]; rfl, by (repeat (first | (with_reducible assumption) | (with_reducible exact Below.refl _ _) | (with_reducible refine Below.setCell ?_ (by first | (simp; done) | (simp; omega)) _) | (with_reducible refine Below.al ?_ _) | (with_reducible refine Below.dr ?_) | (with_reducible refine Below.drN ?_ _) | (with_reducible refine Below.tr ?_ (by with_reducible assumption))))⟩
theorem putK_go {L : List Ev} {x : Ev} {k : Nat} (h : ltE x (L.getD k default) = true) : putK L x (k + 1) = putK L x k := by rw [putK, h, cond_true]
theorem putK_stop {L : List Ev} {x : Ev} {k : Nat} (h : ltE x (L.getD k default) = false) : putK L x (k + 1) = k + 1 := by rw [putK, h, cond_false]
set_option maxHeartbeats 8000000 in
set_option maxRecDepth 100000 in
theorem c_spec_l26Put (L : List Ev) (x : Ev) (g c : Nat) (w : World) (hr : RdRow 4 rowE w (.slice (some ⟨g, 0, none⟩) L.length c) L) (hl : L.length < 100000) (hgw : g < w.heap.size) (hcap : L.length ≤ c) :
    Calls Tryd.prog 26 #[.slice (some ⟨g, 0, none⟩) L.length c, .agg #[.int .i64 x.tick, .bool x.thr, .int .i64 x.hand, .int .i64 x.prop]] w fun e w' => ∃ u, e = .returned u ∧ OwnRow 36 4 rowE w.heap.size w'.heap.size w' u (putE L x) ∧ Below w.heap.size w w' := by
  obtain ⟨x1, x2, x3, x4⟩ := x
  simp only
  obtain ⟨W1, hW1⟩ : ∃ W1, W1 = w.alloc (.cells #[.int .i64 x1, .bool x2, .int .i64 x3, .int .i64 x4] 36) := ⟨_, rfl⟩
  have B1 : Below w.heap.size w W1 := by rw [hW1]; exact (Below.refl _ _).al _
  have a0 : W1.cell? ⟨w.heap.size, 0, none⟩ = some (.int .i64 x1) := by rw [hW1]; exact World.cell?_alloc_at _ _ _ _ rfl
  have a1 : W1.cell? ⟨w.heap.size, 1, none⟩ = some (.bool x2) := by rw [hW1]; exact World.cell?_alloc_at _ _ _ _ rfl
  have a2 : W1.cell? ⟨w.heap.size, 2, none⟩ = some (.int .i64 x3) := by rw [hW1]; exact World.cell?_alloc_at _ _ _ _ rfl
  have a3 : W1.cell? ⟨w.heap.size, 3, none⟩ = some (.int .i64 x4) := by rw [hW1]; exact World.cell?_alloc_at _ _ _ _ rfl
  have HR := Lib.hid (hr.below B1)
  have HC : Hid (∀ k, k < L.length → W1.cell? ⟨g, k * 4, none⟩ = some (.int .i64 (L.getD k default).tick) ∧ W1.cell? ⟨g, k * 4 + 1, none⟩ = some (.bool (L.getD k default).thr) ∧ W1.cell? ⟨g, k * 4 + 2, none⟩ = some (.int .i64 (L.getD k default).hand)) := fun k hk => by
    obtain ⟨a, cp, he, -, hc⟩ := HR.out
    cases he
    obtain ⟨b, o, hb, hcc⟩ := hc k hk
    cases hb
    have e : L.getD k default = L[k] := by simp [List.getD, hk]
    rw [e]
    refine ⟨?_, ?_, ?_⟩
    · have := hcc 0 _ rfl; rwa [Nat.zero_add] at this
    · have := hcc 1 _ rfl; rwa [Nat.zero_add] at this
    · have := hcc 2 _ rfl; rwa [Nat.zero_add] at this
  have hs1 : W1.heap.size = w.heap.size + 1 := by rw [hW1]; simp
  obtain ⟨N, HN⟩ : ∃ N, Hid (L.length = N) := ⟨_, Lib.hid rfl⟩
  rw [HN.out] at HC hl hcap
  clear hr
  go_enter Tryd.func26, Tryd.ntmps26
  rw [show L.length = N from HN.out]
  go_wp2_with fail
  rw [← hW1]
  clear hW1
  go_loopw [5] (fun i wr => ∃ k : Nat, i = .int .i64 k ∧ k ≤ N ∧ Below W1.heap.size W1 wr ∧ Hid (putK L ⟨x1, x2, x3, x4⟩ k = putK L ⟨x1, x2, x3, x4⟩ N)) (fun i _ => (intOf i).toNat)
  case atStart => exact ⟨N, rfl, Nat.le_refl _, Below.refl _ _, rfl⟩
  case round =>
    obtain ⟨k, rfl, hk, Br, HP⟩ := hrel
    have a0 := keepc Br a0
    have a1 := keepc Br a1
    have a2 := keepc Br a2
    have a3 := keepc Br a3
    have hll := Nat.le_of_eq HN.out
    have hlr := Nat.le_of_eq HN.out.symm
    have HRN : Hid (RdRow 4 rowE W1 (.slice (some ⟨g, 0, none⟩) L.length c) L) := HR
    have hll := Nat.le_of_eq HN.out
    have hlr := Nat.le_of_eq HN.out.symm
    have HRN : Hid (RdRow 4 rowE W1 (.slice (some ⟨g, 0, none⟩) L.length c) L) := HR
    have hll := Nat.le_of_eq HN.out
    have hlr := Nat.le_of_eq HN.out.symm
    have HRN : Hid (RdRow 4 rowE W1 (.slice (some ⟨g, 0, none⟩) L.length c) L) := HR
    by_cases h0 : k = 0
    · subst h0
      have HK : Hid (putK L ⟨x1, x2, x3, x4⟩ N = 0) := HP.out.symm
      have HR1 := Lib.hid (cutG_r (HRN.out.below Br) 0 (by omega))
      have HR2 := Lib.hid (fun m : Nat => cutG_l (m := m) (HRN.out.below Br) 0 (by omega))
      have htk := List.length_take_le 0 L
      have hlt1 : ([] : List Ev).length + (L.take 0).length < 1000000000 := by show 0 + (L.take 0).length < _; omega
      have hlt2 : (([] : List Ev) ++ L.take 0).length < 1000000000 := by rw [List.nil_append]; omega
      have hlt3 : (([] : List Ev) ++ L.take 0 ++ [(⟨x1, x2, x3, x4⟩ : Ev)]).length + (L.drop 0).length < 1000000000 := by rw [List.nil_append, List.length_append, List.length_singleton, List.length_drop]; omega
      have hzz : W1.heap.size ≤ wr.heap.size := Br.size
      go_wp2_with (at_builtin; refine stop_of ?_)
      unfold Stopped
      refine push_rowsN rfl _ _ _ _ rfl Tryd.underlying32 _ _ infoE rfl (by decide) (by decide) rowE_len rowE_one wr.heap.size (wr.heap.size + 1) (.slice (some ⟨wr.heap.size, 0, none⟩) 0 0) (.slice (some ⟨g, 0, none⟩) 0 c) ([] : List Ev) (L.take 0) _ rfl rfl (by exact OwnRow.made rfl rfl (Nat.le_refl _)) ⟨_, _, _, rfl⟩ (by exact HR1.out.below ((Below.refl _ _).al _)) hlt1 (by simp) ?_
      intro v3 w3 ho3 hg3 hat3 hs3
      have B3 : Below wr.heap.size wr w3 := ((Below.refl _ _).al _).grown hg3 (by simp) (fun b hb => by simp only [Value.ownBlock, Option.some.injEq] at hb; omega)
      have a0 := keepc B3 a0
      have a1 := keepc B3 a1
      have a2 := keepc B3 a2
      have a3 := keepc B3 a3
      have hz3 := B3.size
      go_wp2_with (at_builtin; refine stop_of ?_)
      unfold Stopped
      refine push_row_at (row := rowE) rfl _ _ _ _ rfl Tryd.underlying32 _ _ infoE rfl (by decide) (by decide) rowE_len wr.heap.size w3.heap.size v3 (([] : List Ev) ++ L.take 0) ⟨x1, x2, x3, x4⟩ #[.int .i64 x1, .bool x2, .int .i64 x3, .int .i64 x4] w3 rfl (rowE_one _) rfl rfl (by exact ho3) hlt2 hz3 ?_
      intro v4 w4 ho4 hbel4 hs4 hg4 hat4
      have B4 := hbel4 _ B3
      have hz4 := B4.size
      have HPE : Hid (([] : List Ev) ++ L.take 0 ++ [(⟨x1, x2, x3, x4⟩ : Ev)] ++ L.drop 0 = putE L ⟨x1, x2, x3, x4⟩) := by unfold Hid putE; rw [HN.out, HK.out, List.nil_append]
      have hlo4 := fun k hk => (World.ownsRow.lt ho4.1 k hk).1
      go_wp2_with (at_builtin; refine stop_of ?_)
      all_goals
        unfold Stopped
        refine push_rowsN rfl _ _ _ _ rfl Tryd.underlying32 _ _ infoE rfl (by decide) (by decide) rowE_len rowE_one wr.heap.size w4.heap.size v4 _ (([] : List Ev) ++ L.take 0 ++ [(⟨x1, x2, x3, x4⟩ : Ev)]) (L.drop 0) w4 rfl rfl (by exact ho4) (own_some ho4 (by simp)) (by rw [← HN.out]; first | exact (HR2.out _).below B4 | exact (cutG_nil (by omega)).below B4) hlt3 hz4 ?_
        intro v5 w5 ho5 hg5 hat5 hs5
        have B5 : Below w.heap.size w w5 := (B1.tr Br).tr (B4.grown hg5 hz4 hlo4)
        rw [HPE.out] at ho5
        go_wp2
        go_ret
        exact ⟨_, rfl, ho5.wide (by omega) (Nat.le_refl _), B5⟩
    · obtain ⟨q, hq⟩ : ∃ q, k = q + 1 := ⟨k - 1, by omega⟩
      have hq1 : q + 1 ≤ k := by omega
      have hq2 : k ≤ q + 1 := by omega
      have hkI : (0 : Int) < (k : Int) := by omega
      obtain ⟨b0, b1, b2⟩ := HC.out q (by omega)
      have b0 := keepc Br b0
      have b1 := keepc Br b1
      have b2 := keepc Br b2
      have hl0 := c_spec_l26Before x1 x2 x3 x4 (L.getD q default).tick (L.getD q default).thr (L.getD q default).hand (L.getD q default).prop w.heap.size 0 g (q * 4) wr a0 a1 a2 b0 b1 b2
      have he1 : ((k : Int) - 1).toNat = q := by omega
      have he2 : (k : Int) - 1 = (q : Int) := by omega
      cases hlv : ltE ⟨x1, x2, x3, x4⟩ (L.getD q default)
      · rw [show ltE ⟨x1, x2, x3, x4⟩ ⟨(L.getD q default).tick, (L.getD q default).thr, (L.getD q default).hand, (L.getD q default).prop⟩ = false from hlv] at hl0
        have HK : Hid (putK L ⟨x1, x2, x3, x4⟩ N = k) := by unfold Hid; rw [← HP.out, hq]; exact putK_stop hlv
        clear hq
        go_wp2_with fail
        refine hl0.mono ?_; rintro e w9 ⟨rfl, hb9⟩
        have a0 := keepc hb9 a0
        have a1 := keepc hb9 a1
        have a2 := keepc hb9 a2
        have a3 := keepc hb9 a3
        have Br9 := Br.tr hb9
        clear hl0 b0 b1 b2 hlv
        have HR1 := Lib.hid (cutG_r (HRN.out.below Br9) k (by omega))
        have HR2 := Lib.hid (fun m : Nat => cutG_l (m := m) (HRN.out.below Br9) k (by omega))
        have htk := List.length_take_le k L
        have hlt1 : ([] : List Ev).length + (L.take k).length < 1000000000 := by show 0 + (L.take k).length < _; omega
        have hlt2 : (([] : List Ev) ++ L.take k).length < 1000000000 := by rw [List.nil_append]; omega
        have hlt3 : (([] : List Ev) ++ L.take k ++ [(⟨x1, x2, x3, x4⟩ : Ev)]).length + (L.drop k).length < 1000000000 := by rw [List.nil_append, List.length_append, List.length_singleton, List.length_drop]; omega
        have hzz : W1.heap.size ≤ w9.heap.size := Br9.size
        go_wp2_with (at_builtin; refine stop_of ?_)
        unfold Stopped
        refine push_rowsN rfl _ _ _ _ rfl Tryd.underlying32 _ _ infoE rfl (by decide) (by decide) rowE_len rowE_one w9.heap.size (w9.heap.size + 1) (.slice (some ⟨w9.heap.size, 0, none⟩) 0 0) (.slice (some ⟨g, 0, none⟩) k c) ([] : List Ev) (L.take k) _ rfl rfl (by exact OwnRow.made rfl rfl (Nat.le_refl _)) ⟨_, _, _, rfl⟩ (by exact HR1.out.below ((Below.refl _ _).al _)) hlt1 (by simp) ?_
        intro v3 w3 ho3 hg3 hat3 hs3
        have B3 : Below w9.heap.size w9 w3 := ((Below.refl _ _).al _).grown hg3 (by simp) (fun b hb => by simp only [Value.ownBlock, Option.some.injEq] at hb; omega)
        have a0 := keepc B3 a0
        have a1 := keepc B3 a1
        have a2 := keepc B3 a2
        have a3 := keepc B3 a3
        have hz3 := B3.size
        go_wp2_with (at_builtin; refine stop_of ?_)
        unfold Stopped
        refine push_row_at (row := rowE) rfl _ _ _ _ rfl Tryd.underlying32 _ _ infoE rfl (by decide) (by decide) rowE_len w9.heap.size w3.heap.size v3 (([] : List Ev) ++ L.take k) ⟨x1, x2, x3, x4⟩ #[.int .i64 x1, .bool x2, .int .i64 x3, .int .i64 x4] w3 rfl (rowE_one _) rfl rfl (by exact ho3) hlt2 hz3 ?_
        intro v4 w4 ho4 hbel4 hs4 hg4 hat4
        have B4 := hbel4 _ B3
        have hz4 := B4.size
        have HPE : Hid (([] : List Ev) ++ L.take k ++ [(⟨x1, x2, x3, x4⟩ : Ev)] ++ L.drop k = putE L ⟨x1, x2, x3, x4⟩) := by unfold Hid putE; rw [HN.out, HK.out, List.nil_append]
        have hlo4 := fun k hk => (World.ownsRow.lt ho4.1 k hk).1
        go_wp2_with (at_builtin; refine stop_of ?_)
        all_goals
          unfold Stopped
          refine push_rowsN rfl _ _ _ _ rfl Tryd.underlying32 _ _ infoE rfl (by decide) (by decide) rowE_len rowE_one w9.heap.size w4.heap.size v4 _ (([] : List Ev) ++ L.take k ++ [(⟨x1, x2, x3, x4⟩ : Ev)]) (L.drop k) w4 rfl rfl (by exact ho4) (own_some ho4 (by simp)) (by rw [← HN.out]; first | exact (HR2.out _).below B4 | exact (cutG_nil (by omega)).below B4) hlt3 hz4 ?_
          intro v5 w5 ho5 hg5 hat5 hs5
          have B5 : Below w.heap.size w w5 := (B1.tr Br9).tr (B4.grown hg5 hz4 hlo4)
          rw [HPE.out] at ho5
          go_wp2
          go_ret
          exact ⟨_, rfl, ho5.wide (by omega) (Nat.le_refl _), B5⟩
      · rw [show ltE ⟨x1, x2, x3, x4⟩ ⟨(L.getD q default).tick, (L.getD q default).thr, (L.getD q default).hand, (L.getD q default).prop⟩ = true from hlv] at hl0
        have HK : Hid (putK L ⟨x1, x2, x3, x4⟩ q = putK L ⟨x1, x2, x3, x4⟩ N) := by unfold Hid; rw [← HP.out, hq]; exact (putK_go hlv).symm
        clear hq
        go_wp2_with fail
        refine hl0.mono ?_; rintro e w9 ⟨rfl, hb9⟩
        have HB9 := Lib.hid (Br.tr hb9)
        clear hl0 b0 b1 b2 hlv hb9
        go_wp2
        exact ⟨⟨q, rfl, by omega, HB9.out, HK⟩, by simp [intOf]; omega⟩
end Go.Proofs.YtgcmnpimkfmccaaDoor
