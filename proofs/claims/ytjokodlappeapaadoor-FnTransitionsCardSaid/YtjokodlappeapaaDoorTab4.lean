/- Contracts on tables of patterns: the tables of both sides. -/
import Derived.Test.YtjokodlappeapaaDoorTab3
import Derived.Deep.RegionHeld3
namespace Go.Proofs.YtjokodlappeapaaDoor
open Go.ChangeShapes Go.WideShapes Go.ChangeAt Go.RowKit
set_option linter.unusedVariables false
set_option linter.unusedSimpArgs false
theorem tab_mem {X : List (List Int)} {h : Int} (hc : tabC X h = 0) : ∀ x ∈ fstL X h, x ∈ maskL (propsP (X.getD 0 [])) h := by
  obtain ⟨hh, _, hk⟩ := tab_ok hc
  intro x hx
  unfold fstL fstTo at hx
  rw [List.mem_map] at hx
  obtain ⟨i, hi, rfl⟩ := hx
  obtain ⟨h1, h2, h3⟩ := hk i (List.mem_range.1 hi)
  rw [← h3]
  exact stM_mem h1 0 hh h2
theorem bridge_far {X : List (List Int)} {h : Int} (hc : tabC X h = 0) {i j : Nat} (hi : i < X.length) (hj : j < X.length) : ((bridgeL (X.getD i []) (X.getD j []) h).length : Int) = farM h ((fstL X h).getD i 0) ((fstL X h).getD j 0) ∧ (bridgeL (X.getD i []) (X.getD j []) h).length ≤ 1024 := by
  have hh := (tab_ok hc).1
  have hm := tab_mem hc
  have h1 := hm _ (getD_mem0 (S := fstL X h) (k := i) (by rw [fstL_len]; exact hi))
  have h2 := hm _ (getD_mem0 (S := fstL X h) (k := j) (by rw [fstL_len]; exact hj))
  have hb := farM_bd hh h1 h2
  refine ⟨?_, bridgeL_len (tab_br hc hi hj)⟩
  rw [fstL_at hi, fstL_at hj] at *
  unfold bridgeL
  rw [shortL_len]
  omega
theorem tab_far {X : List (List Int)} {h : Int} (hc : tabC X h = 0) : ∀ i j : Nat, i < X.length → j < X.length → 0 ≤ farM h ((fstL X h).getD i 0) ((fstL X h).getD j 0) ∧ farM h ((fstL X h).getD i 0) ((fstL X h).getD j 0) ≤ 1024 := fun i j hi hj => by
  have := bridge_far hc hi hj
  omega
def someC (X : List (List Int)) (h : Int) : Int := if tabC X h = 0 then (if X.length = 0 then 3 else 0) else tabC X h
set_option maxHeartbeats 1000000 in
theorem c_impl_table (X : List (List Int)) (h : Int) (v : Value) (w : World) (hr : RdG w v X) (hc : tabC X h = 0) :
    Calls Tryd.prog 53 #[v, .int .i64 h] w fun e w' => ∃ u, e = .returned u ∧ OwnGT w.heap.size w'.heap.size w' u (tabL X h) ∧ Below w.heap.size w w' := by
  have HR := Lib.hid hr
  have HC := Lib.hid hc
  have HM := Lib.hid (tab_mem hc)
  have hh := (tab_ok hc).1
  have hl8 := (tab_ok hc).2.1
  have hfl := fstL_len X h
  have HT : Hid (tabL X h = amongL h (fstL X h)) := rfl
  clear hr hc
  go_enter Tryd.func53, Tryd.ntmps53
  go_wp2_with fail
  refine (c_impl_firstStates X h _ _ HR.out HC.out).mono ?_; rintro e w1 ⟨u1, rfl, ho1, hb1⟩
  have hr1 := OwnRow.rd (rowS_len h) ho1
  go_wp2_with fail
  refine (c_impl_distancesAmong _ h (fstL X h) _ _ hh hr1 HM.out (by omega)).mono ?_; rintro e w2 ⟨u2, rfl, ho2, hb2⟩
  go_wp2
  go_ret
  exact ⟨_, rfl, by rw [HT.out]; exact ho2.wide hb1.size (Nat.le_refl _), hb1.tr hb2⟩
set_option maxHeartbeats 1000000 in
theorem c_impl_someCode (X : List (List Int)) (h : Int) (v : Value) (w : World) (hr : RdG w v X) :
    Calls Tryd.prog 63 #[v, .int .i64 h] w fun e w' => e = .returned (.int .i64 (someC X h)) ∧ Below w.heap.size w w' := by
  have HR := Lib.hid hr
  obtain ⟨a1, cap1, rfl, hl1, _⟩ := hr
  cases hc : (tabC X h != 0)
  · have hc0 : tabC X h = 0 := by simpa using hc
    by_cases h0 : X.length = 0
    · have HX : Hid (someC X h = 3) := by unfold Hid someC; rw [if_pos hc0, if_pos h0]
      have hz : ((X.length : Int) == 0) = true := by simp [h0]
      have HC := Lib.hid hc0
      clear hc0 h0
      go_enter Tryd.func63, Tryd.ntmps63
      go_wp2_with fail
      refine (c_impl_tableCode X h _ _ HR.out).mono ?_; rintro e w1 ⟨rfl, hb1⟩
      go_wp2
      go_ret
      exact ⟨by rw [HX.out]; rfl, hb1⟩
    · have HX : Hid (someC X h = 0) := by unfold Hid someC; rw [if_pos hc0, if_neg h0]
      have hz : ((X.length : Int) == 0) = false := by
        have : (X.length : Int) ≠ 0 := by omega
        simpa using this
      have HC := Lib.hid hc0
      clear hc0 h0
      go_enter Tryd.func63, Tryd.ntmps63
      go_wp2_with fail
      refine (c_impl_tableCode X h _ _ HR.out).mono ?_; rintro e w1 ⟨rfl, hb1⟩
      go_wp2
      go_ret
      exact ⟨by rw [HX.out]; rfl, hb1⟩
  · have HX : Hid (someC X h = tabC X h) := by
      unfold Hid someC; rw [if_neg]; simpa using hc
    go_enter Tryd.func63, Tryd.ntmps63
    go_wp2_with fail
    refine (c_impl_tableCode X h _ _ HR.out).mono ?_; rintro e w1 ⟨rfl, hb1⟩
    go_wp2
    go_ret
    exact ⟨by rw [HX.out]; rfl, hb1⟩
theorem c_bridge_len (a b : List Int) (h : Int) (v1 v2 : Value) (w : World) (hr1 : RdI w v1 a) (hr2 : RdI w v2 b) (hc : brC a b h = 0) (D : Nat) (hD : (bridgeL a b h).length = D) :
    Calls Tryd.prog 59 #[v1, v2, .int .i64 h] w fun e w' => ∃ ad cap, e = .returned (.slice ad D cap) ∧ Below w.heap.size w w' := by
  refine (c_spec_l10Bridge a b h v1 v2 w hr1 hr2 hc).mono ?_
  rintro e w2 ⟨u, rfl, hu, hb⟩
  obtain ⟨ad, cap, rfl, _, _⟩ := hu.rd
  exact ⟨ad, cap, by rw [hD], hb⟩
set_option maxHeartbeats 4000000 in
set_option maxRecDepth 100000 in
theorem c_spec_l23Table (X : List (List Int)) (h : Int) (v : Value) (w : World) (hr : RdG w v X) (hc : tabC X h = 0) :
    Calls Tryd.prog 55 #[v, .int .i64 h] w fun e w' => ∃ u, e = .returned u ∧ OwnGT w.heap.size w'.heap.size w' u (tabL X h) ∧ Below w.heap.size w w' := by
  obtain ⟨a1, cap1, rfl, hl1, hc1⟩ := hr
  have HC := Lib.hid hc1
  have HBR := Lib.hid (fun i j => fun hi hj => tab_br (i := i) (j := j) hc hi hj)
  have HBF := Lib.hid (fun i j => fun hi hj => bridge_far (i := i) (j := j) hc hi hj)
  have hl8 := (tab_ok hc).2.1
  have hfl := fstL_len X h
  have HT : Hid (tabL X h = amongTo h (fstL X h) (fstL X h).length) := rfl
  rw [hfl] at HT
  have HAS := Lib.hid (fun k => amongTo_succ h (fstL X h) k)
  have HRS := Lib.hid (fun k j hj => rowTo_succ (h := h) (S := fstL X h) (i := k) (k := j) hj)
  have HRL := Lib.hid (fun k j => rowTo_len h (fstL X h) k j)
  have HAL := Lib.hid (fun k => amongTo_len h (fstL X h) k)
  have HR0 : Hid (∀ k, rowTo h (fstL X h) k 0 = []) := by unfold Hid rowTo; simp
  rw [hfl] at HRS HAS
  clear hc hc1 hfl
  generalize fstL X h = S at *
  go_enter Tryd.func55, Tryd.ntmps55
  go_wp2
  go_loopw [5, 6] (fun out i wr => ∃ k : Nat, k ≤ X.length ∧ i = .int .i64 k ∧ OwnGT w.heap.size wr.heap.size wr out (amongTo h S k) ∧ Below w.heap.size w wr) (fun _ i _ => X.length - (intOf i).toNat)
  case atStart => exact ⟨0, by omega, rfl, (OwnG.made rfl (Nat.le_refl _)).tight, by (repeat (first | (with_reducible assumption) | (with_reducible exact Below.refl _ _) | (with_reducible refine Below.setCell ?_ (by first | (simp; done) | (simp; omega)) _) | (with_reducible refine Below.al ?_ _) | (with_reducible refine Below.dr ?_) | (with_reducible refine Below.drN ?_ _) | (with_reducible refine Below.tr ?_ (by with_reducible assumption))))⟩
  case round =>
    obtain ⟨k, hk, rfl, hout, hbr⟩ := hrel
    have hbs := hbr.size
    by_cases hlt : k < X.length
    · have HA := Lib.hid (HAS.out k)
      have hal := HAL.out k
      have hkl : (amongTo h S k).length < 1000000000 := by omega
      clear hal
      obtain ⟨wo, rfl⟩ : ∃ wo : World, wo = wr := ⟨_, rfl⟩
      go_wp2
      go_loopw [7, 8] (fun row i wr => ∃ j : Nat, j ≤ X.length ∧ i = .int .i64 j ∧ OwnIR 2 wo.heap.size wr.heap.size wr row (rowTo h S k j) ∧ Below wo.heap.size wo wr) (fun _ i _ => X.length - (intOf i).toNat)
      case atStart => exact ⟨0, by omega, rfl, by rw [HR0.out]; exact ⟨OwnI.made rfl rfl (Nat.le_refl _), fun q hq => by cases hq; simp⟩, by (repeat (first | (with_reducible assumption) | (with_reducible exact Below.refl _ _) | (with_reducible refine Below.setCell ?_ (by first | (simp; done) | (simp; omega)) _) | (with_reducible refine Below.al ?_ _) | (with_reducible refine Below.dr ?_) | (with_reducible refine Below.drN ?_ _) | (with_reducible refine Below.tr ?_ (by with_reducible assumption))))⟩
      case round =>
        obtain ⟨j, hj, rfl, hrow, hb6⟩ := hrel
        have hs6 := hb6.size
        have B6 : Below w.heap.size w wr := hbr.tr hb6
        by_cases hjl : j < X.length
        · obtain ⟨b1, o1, u1, rfl, hx1, hu1⟩ := HC.out k hlt
          obtain ⟨b2, o2, u2, hae, hx2, hu2⟩ := HC.out j hjl
          cases hae
          have hbb : b1 < w.heap.size := World.block_lt_of_cell? w _ hx1
          have y1 := keepc B6 hx1
          have y2 := keepc B6 hx2
          have r1 := Lib.hid (hu1.below B6)
          have r2 := Lib.hid (hu2.below B6)
          have HB0 := Lib.hid (HBR.out k j hlt hjl)
          have HBD := Lib.hid (HBF.out k j hlt hjl)
          have HRj := Lib.hid (HRS.out k j hjl)
          have hll : (rowTo h S k j).length < 1000000000 := by have := HRL.out k j; omega
          clear hx1 hx2 hu1 hu2
          obtain ⟨p, Hp⟩ : ∃ p, Hid (X.getD k [] = p) := ⟨_, rfl⟩
          obtain ⟨q, Hq⟩ : ∃ q, Hid (X.getD j [] = q) := ⟨_, rfl⟩
          obtain ⟨D, HD⟩ : ∃ D : Nat, Hid ((bridgeL (X.getD k []) (X.getD j []) h).length = D) := ⟨_, rfl⟩
          rw [HD.out] at HBD
          rw [Hp.out, Hq.out] at HD HB0
          rw [Hp.out] at r1
          rw [Hq.out] at r2
          have HDF := Lib.hid HBD.out.1
          have hD2 := HBD.out.2
          rw [← HDF.out] at HRj
          have hk0 : (0 : Int) ≤ (k : Int) := Int.natCast_nonneg _
          have hk1 : (k : Int) < (X.length : Int) := by omega
          have hj0 : (0 : Int) ≤ (j : Int) := Int.natCast_nonneg _
          have hj1 : (j : Int) < (X.length : Int) := by omega
          have hbw : b1 < wr.heap.size := by omega
          have hnu : u7.ownBlock ≠ some b1 := fun e => by have := (World.ownsRow.lt hrow.1 b1 e).1; omega
          go_wp2_with fail
          go_region_held3 (fun w' => w'.cell? ⟨b1, o1 + k, none⟩ = some u1 ∧ w'.cell? ⟨b1, o1 + j, none⟩ = some u2)
            (go_keep)
            (first
              | ((go_at_call 59; refine (c_bridge_len p q h _ _ _ (by exact r1.out) (by exact r2.out) HB0.out D HD.out).mono ?_; rintro e w5 ⟨ad5, cap5, rfl, hb5⟩; have hb5' := below_drew hb5; have z1 := keepc hb5' y1; have z2 := keepc hb5' y2; have hrow5 := hrow.below hb5'; have hs5 := hb5'.size))
              | ((refine step_push_row (row := rowI) (by exact rfl) _ _ _ _ (by exact rfl) Tryd.underlying34 (.int .i64 0) 8 infoI rfl (by decide) (by decide) rowI_len wo.heap.size wr.heap.size w5.heap.size u7 (rowTo h S k j) (D : Int) #[.int .i64 (D : Int)] _ rfl (rowI_one _) (by exact rfl) (by exact rfl) (heap_alloc_new w5 _) (by exact OwnRow.al hrow5.row _) hll ?_ ?_; exact (Nat.le_trans (Nat.le_trans hs6 hs5) (Nat.le_of_lt (Nat.lt_of_lt_of_le (Nat.lt_succ_self _) (Nat.le_of_eq (World.size_alloc w5 _).symm)))); intro v7 w7 hown7 hg7 hat7 hs7; have q1 := grown_c hg7 (al_c _ z1) hnu; have q2 := grown_c hg7 (al_c _ z2) hnu)))
          have hBa : Below wo.heap.size wo (w5.alloc (Obj.cells #[Value.int IntKind.i64 (D : Int)] 2)) := by (repeat (first | (with_reducible assumption) | (with_reducible exact Below.refl _ _) | (with_reducible refine Below.setCell ?_ (by first | (simp; done) | (simp; omega)) _) | (with_reducible refine Below.al ?_ _) | (with_reducible refine Below.dr ?_) | (with_reducible refine Below.drN ?_ _) | (with_reducible refine Below.tr ?_ (by with_reducible assumption))))
          go_wp2
          go_roundw
          case rel => exact ⟨j + 1, by omega, by go_num, by rw [HRj.out]; exact hown7.ints, hBa.grown hg7 hBa.size (fun q hq => (World.ownsRow.lt hrow.1 q hq).1)⟩
          case measure => simp [intOf]; omega
        · obtain rfl : j = X.length := by omega
          have hout6 := hout.below hb6
          have hlo := World.ownsRow.lt hrow.1
          have hrr := hrow.rd
          obtain ⟨ar, capr, rfl, -, -⟩ := hrr
          go_wp2_with (at_builtin; refine push_g rfl _ _ _ rfl Tryd.underlying43 infoG1 _ _ _ _ _ rfl rfl (by exact hout6) (by exact hrow.1.base (by omega)) (fun b hb => (hlo b hb).1) (by exact OwnI.one hrow.1) hkl (by omega) ?_; intro v' w9 hG hg9 hat9 hs9)
          go_roundw
          case rel => exact ⟨k + 1, by omega, by go_num, by rw [HA.out]; exact hG, (hbr.tr hb6).grown hg9 (hbr.tr hb6).size (fun q hq => (OwnG.lt hout6 q hq).1)⟩
          case measure => simp [intOf]; omega
    · obtain rfl : k = X.length := by omega
      go_wp2
      go_ret
      exact ⟨_, rfl, by rw [HT.out]; exact hout, hbr⟩
end Go.Proofs.YtjokodlappeapaaDoor
