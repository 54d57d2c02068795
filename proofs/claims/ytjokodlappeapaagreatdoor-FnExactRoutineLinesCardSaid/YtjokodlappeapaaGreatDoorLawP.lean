/- Contracts of the laws' helpers on routines: size, conversion, equality. -/
import Derived.Test.YtjokodlappeapaaGreatDoorLawC
import Derived.Test.YtjokodlappeapaaGreatDoorLawG
import Derived.Test.YtjokodlappeapaaGreatDoorMemP
namespace Go.Proofs.YtjokodlappeapaaGreatDoor
open Go.ChangeShapes Go.WideShapes Go.ChangeAt Go.RowKit
set_option linter.unusedVariables false
set_option linter.unusedSimpArgs false
theorem infoP : (Tryz.prog.info? 68).map (fun i => (i.zero, i.size, i.bytes)) = some (some (.agg #[.slice none 0 0, .int .i64 0]), 2, 32) := by kernel_rfl
theorem c_laws_szPart (left m : Int) (a : Option Addr) (len cap : Nat) (w : World) (hl : (len : Int) ≤ 9223372036854775807) (h0 : 0 ≤ left ∧ left ≤ 1048576) :
    Calls Tryz.prog 80 #[.agg #[.slice a len cap, .int .i64 m], .int .i64 left] w fun e w' => e = .returned (.int .i64 (szLeftG left len)) ∧ Below w.heap.size w w' := by
  by_cases h : left - (len : Int) < 0
  · have HN : Hid (szLeftG left len = -1) := if_pos h
    have ht : szLeftG left len < 0 := by rw [HN.out]; decide
    go_enter Tryz.func80, Tryz.ntmps80
    go_wp2_with (go_at_call 124; refine (c_laws_szInt64S' _ _ _ _ _ hl h0).mono ?_; rintro e w2 ⟨rfl, rfl⟩)
    go_ret
    exact ⟨by rw [HN.out]; rfl, by (repeat (first | (with_reducible assumption) | (with_reducible exact Below.refl _ _) | (with_reducible refine Below.setCell ?_ (by first | (simp; done) | (simp; omega)) _) | (with_reducible refine Below.al ?_ _) | (with_reducible refine Below.dr ?_) | (with_reducible refine Below.drN ?_ _) | (with_reducible refine Below.tr ?_ (by with_reducible assumption))))⟩
  · have HN : Hid (szLeftG left len = left - len) := if_neg h
    have ht : ¬ szLeftG left len < 0 := by rw [HN.out]; omega
    go_enter Tryz.func80, Tryz.ntmps80
    go_wp2_with (go_at_call 124; refine (c_laws_szInt64S' _ _ _ _ _ hl h0).mono ?_; rintro e w2 ⟨rfl, rfl⟩)
    go_ret
    exact ⟨rfl, by (repeat (first | (with_reducible assumption) | (with_reducible exact Below.refl _ _) | (with_reducible refine Below.setCell ?_ (by first | (simp; done) | (simp; omega)) _) | (with_reducible refine Below.al ?_ _) | (with_reducible refine Below.dr ?_) | (with_reducible refine Below.drN ?_ _) | (with_reducible refine Below.tr ?_ (by with_reducible assumption))))⟩
set_option maxHeartbeats 1000000 in
theorem c_laws_szPartS (X : List Part2) (left : Int) (v : Value) (w : World) (h : RdP w v X) (h0 : 0 ≤ left ∧ left ≤ 1048576) :
    Calls Tryz.prog 38 #[v, .int .i64 left] w fun e w' => e = .returned (.int .i64 (szLeftG left ((X.length + sumP X : Nat) : Int))) ∧ Below w.heap.size w w' := by
  have h' := h
  obtain ⟨a1, cap1, rfl, hl1, -⟩ := h'
  have HH := Lib.hid h
  clear h
  by_cases hneg : left - (X.length : Int) < 0
  · have HN : Hid (szLeftG left ((X.length + sumP X : Nat) : Int) = -1) := if_pos (by omega)
    go_enter Tryz.func38, Tryz.ntmps38
    go_wp2
    go_ret
    exact ⟨by rw [HN.out]; rfl, Below.refl _ _⟩
  · have HSN := Lib.hid (fun k hk => sumP_snoc X k hk)
    have HSL := Lib.hid (sumP_le X)
    go_enter Tryz.func38, Tryz.ntmps38
    go_wp2
    go_loopw [1, 5] (fun l i wr => ∃ k : Nat, k ≤ X.length ∧ i = .int .i64 k ∧ l = .int .i64 (left - X.length - sumP (X.take k)) ∧ 0 ≤ left - X.length - sumP (X.take k) ∧ Below w.heap.size w wr) (fun _ i _ => X.length - (intOf i).toNat)
    case atStart => exact ⟨0, by omega, rfl, by simp [sumP], by simp [sumP]; omega, Below.refl _ _⟩
    case round =>
      obtain ⟨k, hk, rfl, rfl, hp, hb⟩ := hrel
      by_cases hlt : k < X.length
      · obtain ⟨a', cap', he, -, hc⟩ := HH.out
        cases he
        obtain ⟨b1, o1, u, rfl, x0, x1, hu⟩ := hc k hlt
        clear hc
        have x0 := keepc hb x0
        have x1 := keepc hb x1
        have hsn := HSN.out k hlt
        have hsl := HSL.out (k + 1)
        obtain ⟨au, cu, rfl, hul, _⟩ := hu
        obtain ⟨n, Hn⟩ : ∃ n, Hid (X[k].1.length = n) := ⟨X[k].1.length, Lib.hid rfl⟩
        rw [Hn.out] at x0 hsn hul
        obtain ⟨m, Hm⟩ : ∃ m, Hid (X[k].2 = m) := ⟨X[k].2, Lib.hid rfl⟩
        rw [Hm.out] at x1
        generalize hs0 : sumP (X.take k) = s0 at *
        generalize hs1 : sumP (X.take (k + 1)) = s1 at *
        have HS1 := Lib.hid hs1
        have hin0 : (0 : Int) ≤ (k : Int) := Int.natCast_nonneg _
        have hin1 : (k : Int) < (X.length : Int) := by omega
        clear hs0 hs1
        by_cases hn2 : left - (X.length : Int) - (s0 : Int) - (n : Int) < 0
        · have HZ : Hid (szLeftG (left - X.length - s0) n = -1) := if_pos hn2
          have HN : Hid (szLeftG left ((X.length + sumP X : Nat) : Int) = -1) := if_pos (by omega)
          go_wp2_with fail
          refine (c_laws_szPart _ _ _ _ _ _ (by omega) (by omega)).mono ?_; rintro e w2 ⟨rfl, hb2⟩; rw [HZ.out]
          go_wp2
          go_ret
          exact ⟨by rw [HN.out]; rfl, hb.tr hb2⟩
        · have HZ : Hid (szLeftG (left - X.length - s0) n = left - X.length - s0 - n) := if_neg hn2
          go_wp2_with fail
          refine (c_laws_szPart _ _ _ _ _ _ (by omega) (by omega)).mono ?_; rintro e w2 ⟨rfl, hb2⟩; rw [HZ.out]
          go_wp2
          go_roundw
          case rel => exact ⟨k + 1, by omega, by go_num, by rw [HS1.out, hsn]; congr 1; omega, by rw [HS1.out]; omega, hb.tr hb2⟩
          case measure => simp [intOf]; omega
      · obtain rfl : k = X.length := by omega
        rw [List.take_length] at hp
        rw [List.take_length]
        have HN : Hid (szLeftG left ((X.length + sumP X : Nat) : Int) = left - X.length - sumP X) := by
          unfold Hid szLeftG
          rw [if_neg (by omega)]
          omega
        go_wp2
        go_ret
        exact ⟨by rw [HN.out]; rfl, hb⟩
theorem c_laws_szRoutine (X : List Part2) (left h : Int) (v : Value) (w : World) (hr : RdP w v X) (h0 : 0 ≤ left ∧ left ≤ 1048576) :
    Calls Tryz.prog 6 #[.agg #[.int .i64 h, v], .int .i64 left] w fun e w' => e = .returned (.int .i64 (szLeftG left ((X.length + sumP X : Nat) : Int))) ∧ Below w.heap.size w w' := by
  have h' := hr
  obtain ⟨a1, cap1, rfl, hl1, -⟩ := h'
  obtain ⟨T, HT⟩ : ∃ T : Nat, Hid (X.length + sumP X = T) := ⟨_, rfl⟩
  rw [HT.out]
  by_cases hq : left - (T : Int) < 0
  · have HN : Hid (szLeftG left (T : Int) = -1) := if_pos hq
    have ht : szLeftG left (T : Int) < 0 := by rw [HN.out]; decide
    go_enter Tryz.func6, Tryz.ntmps6
    go_wp2_with (go_at_call 38; refine (c_laws_szPartS X _ _ _ (hr.below (by (repeat (first | (with_reducible assumption) | (with_reducible exact Below.refl _ _) | (with_reducible refine Below.setCell ?_ (by first | (simp; done) | (simp; omega)) _) | (with_reducible refine Below.al ?_ _) | (with_reducible refine Below.dr ?_) | (with_reducible refine Below.drN ?_ _) | (with_reducible refine Below.tr ?_ (by with_reducible assumption)))))) h0).mono ?_; rintro e w2 ⟨rfl, hb2⟩; rw [HT.out])
    go_ret
    exact ⟨by rw [HN.out]; rfl, by (repeat (first | (with_reducible assumption) | (with_reducible exact Below.refl _ _) | (with_reducible refine Below.setCell ?_ (by first | (simp; done) | (simp; omega)) _) | (with_reducible refine Below.al ?_ _) | (with_reducible refine Below.dr ?_) | (with_reducible refine Below.drN ?_ _) | (with_reducible refine Below.tr ?_ (by with_reducible assumption))))⟩
  · have HN : Hid (szLeftG left (T : Int) = left - (T : Int)) := if_neg hq
    have ht : ¬ szLeftG left (T : Int) < 0 := by rw [HN.out]; omega
    go_enter Tryz.func6, Tryz.ntmps6
    go_wp2_with (go_at_call 38; refine (c_laws_szPartS X _ _ _ (hr.below (by (repeat (first | (with_reducible assumption) | (with_reducible exact Below.refl _ _) | (with_reducible refine Below.setCell ?_ (by first | (simp; done) | (simp; omega)) _) | (with_reducible refine Below.al ?_ _) | (with_reducible refine Below.dr ?_) | (with_reducible refine Below.drN ?_ _) | (with_reducible refine Below.tr ?_ (by with_reducible assumption)))))) h0).mono ?_; rintro e w2 ⟨rfl, hb2⟩; rw [HT.out])
    go_ret
    exact ⟨rfl, by (repeat (first | (with_reducible assumption) | (with_reducible exact Below.refl _ _) | (with_reducible refine Below.setCell ?_ (by first | (simp; done) | (simp; omega)) _) | (with_reducible refine Below.al ?_ _) | (with_reducible refine Below.dr ?_) | (with_reducible refine Below.drN ?_ _) | (with_reducible refine Below.tr ?_ (by with_reducible assumption))))⟩
set_option maxRecDepth 100000 in
theorem c_laws_toPart (p : List Int) (n : Int) (v : Value) (w : World) (h : RdI w v p) (hn : p.length ≤ 1048576) :
    Calls Tryz.prog 87 #[.agg #[v, .int .i64 n]] w fun e w' => ∃ m, e = .returned (.agg #[.slice (some ⟨m, 0, none⟩) p.length p.length, .int .i64 n]) ∧ w.heap.size ≤ m ∧ OwnI1 m w' (.slice (some ⟨m, 0, none⟩) p.length p.length) p ∧ Below w.heap.size w w' := by
  have h' := h
  obtain ⟨a1, cap1, rfl, hl1, _⟩ := h'
  go_enter Tryz.func87, Tryz.ntmps87
  go_wp2_with fail
  refine (c_laws_toInt64S p _ _ (h.below (by (repeat (first | (with_reducible assumption) | (with_reducible exact Below.refl _ _) | (with_reducible refine Below.setCell ?_ (by first | (simp; done) | (simp; omega)) _) | (with_reducible refine Below.al ?_ _) | (with_reducible refine Below.dr ?_) | (with_reducible refine Below.drN ?_ _) | (with_reducible refine Below.tr ?_ (by with_reducible assumption)))))) hn).mono ?_; rintro e w1 ⟨rfl, hown, hb1⟩; obtain ⟨hc1, hf1⟩ := bcell hb1; have hz1_0 : w.heap.size < w1.heap.size := Nat.lt_of_lt_of_le (by first | omega | (simp; done) | (simp; omega)) hb1.size; have hz1_1 : w.heap.size + 1 < w1.heap.size := Nat.lt_of_lt_of_le (by first | omega | (simp; done) | (simp; omega)) hb1.size; have hz1_2 : w.heap.size + 1 + 1 < w1.heap.size := Nat.lt_of_lt_of_le (by first | omega | (simp; done) | (simp; omega)) hb1.size
  go_wp2
  refine bodyPost_ret (v := .agg #[.slice (some ⟨w.heap.size + 1 + 1 + 1, 0, none⟩) p.length p.length, .int .i64 n]) (by simp [results, Tryz.results87, go_sem, hc1]) rfl ⟨_, rfl, by omega, ?_, ?_⟩
  · have hown' : OwnI 2 (w.heap.size + 1 + 1 + 1) w1 (.slice (some ⟨w.heap.size + 1 + 1 + 1, 0, none⟩) p.length p.length) p := by simpa using hown
    (repeat (first | (with_reducible assumption) | (with_reducible refine OwnI.setBelow ?_ (by first | (simp; done) | (simp; omega)) _) | (with_reducible refine OwnI.al ?_ _) | (with_reducible refine OwnI.dr ?_) | (with_reducible refine OwnI.drN ?_ _) | (with_reducible refine OwnI.below ?_ (by with_reducible assumption))))
  · (repeat (first | (with_reducible assumption) | (with_reducible exact Below.refl _ _) | (with_reducible refine Below.setCell ?_ (by first | (simp; done) | (simp; omega)) _) | (with_reducible refine Below.al ?_ _) | (with_reducible refine Below.dr ?_) | (with_reducible refine Below.drN ?_ _) | (with_reducible refine Below.tr ?_ (by with_reducible assumption))))
set_option maxHeartbeats 2000000 in
set_option maxRecDepth 100000 in
theorem c_laws_toPartS (X : List Part2) (v : Value) (w : World) (h : RdP w v X) (hn : X.length + sumP X ≤ 1048576) :
    Calls Tryz.prog 47 #[v] w fun e w' => ∃ U, e = .returned (.slice (some ⟨w.heap.size, 0, none⟩) X.length X.length) ∧ OwnP 2 w.heap.size w' w.heap.size X X.length X.length U ∧ Below w.heap.size w w' := by
  have h' := h
  obtain ⟨a1, cap1, rfl, hl1, -⟩ := h'
  have HH := Lib.hid h
  have HSA := Lib.hid (fun k hk => sumP_at X k hk)
  clear h
  go_enter Tryz.func47, Tryz.ntmps47
  go_wp2_with (at_make; refine make_cells rfl _ _ _ _ rfl Tryz.underlying29 _ _ _ infoP (by decide) w.heap.size _ _ _ _ _ X.length rfl rfl rfl rfl (by omega) (Nat.le_refl _) ?_; intro w1 hcells hbel hsz)
  have hb1 := hbel w (Below.refl _ _)
  have hO1 : OwnP 2 w.heap.size w1 w.heap.size X X.length 0 (fun _ => .slice none 0 0) := ⟨Nat.le_refl _, hcells, fun i hi h0 => by omega, fun i j h1 h2 => by omega⟩
  clear hbel hsz hcells
  go_loopw [4] (fun i wr => ∃ (k : Nat) (U : Nat → Value), k ≤ X.length ∧ i = .int .i64 k ∧ OwnP 2 w.heap.size wr w.heap.size X X.length k U ∧ (∀ i, i < k → ∀ b, (U i).ownBlock = some b → b < wr.heap.size) ∧ Below w.heap.size w wr) (fun i _ => X.length - (intOf i).toNat)
  case atStart => exact ⟨0, fun _ => .slice none 0 0, by omega, rfl, hO1, fun i hi => by omega, hb1⟩
  case round =>
    clear hO1 hb1
    obtain ⟨k, U, hk, rfl, hO, hU, hb⟩ := hrel
    by_cases hlt : k < X.length
    · obtain ⟨a', cap', he, -, hc⟩ := HH.out
      cases he
      obtain ⟨b1, o1, u, rfl, x0, x1, hu⟩ := hc k hlt
      clear hc
      have x0 := keepc hb x0
      have x1 := keepc hb x1
      have hu := hu.below hb
      have hlk := HSA.out k hlt
      have hin0 : (0 : Int) ≤ (k : Int) := Int.natCast_nonneg _
      have hin1 : (k : Int) < (X.length : Int) := by omega
      obtain ⟨n, Hn⟩ : ∃ n, Hid (X[k].2 = n) := ⟨X[k].2, Lib.hid rfl⟩
      obtain ⟨p, Hp⟩ : ∃ p, Hid (X[k].1 = p) := ⟨X[k].1, Lib.hid rfl⟩
      rw [Hn.out] at x1
      rw [Hp.out] at hu hlk
      have hpn : p.length ≤ 1048576 := by omega
      have HOO := Lib.hid hO
      have HUU := Lib.hid hU
      clear hO hU
      go_wp2_with fail
      refine (c_laws_toPart p n _ _ hu hpn).mono ?_; rintro e w2 ⟨m, rfl, hm, hown, hb2⟩
      have hO2 := HOO.out.below hb2
      have hgl : w.heap.size < wr.heap.size := by
        obtain ⟨⟨q, hq⟩, _⟩ := HOO.out.cells 0 (by omega)
        exact World.block_lt_of_cell? wr _ hq
      have hS := hO2.step hlt (.slice (some ⟨m, 0, none⟩) p.length p.length) m (by rw [Hp.out]; exact hown) (by omega) (fun i hi b hbk => by have := HUU.out i hi b hbk; omega)
      rw [Hn.out] at hS
      obtain ⟨⟨q0, c0⟩, f0⟩ := hO2.cells (k * 2) (by omega)
      obtain ⟨⟨q1, c1⟩, f1⟩ := hO2.cells (k * 2 + 1) (by omega)
      have hml : m < w2.heap.size := (World.ownsRow.lt hown m rfl).2
      have HS := Lib.hid hS
      have B2 := hb.tr hb2
      have hs2 := hb2.size
      clear hS hO2
      go_wp2_with fail
      go_roundw
      case rel =>
        refine ⟨k + 1, _, by omega, by go_num, HS.out.1, fun i hi b hbk => ?_, B2.grown HS.out.2 B2.size (fun j hj => by simp only [Option.some.injEq] at hj; omega)⟩
        have hz := HS.out.2.size
        by_cases e : i = k
        · simp only [e, if_true, Value.ownBlock, Option.some.injEq] at hbk
          omega
        · simp only [if_neg e] at hbk
          have := HUU.out i (by omega) b hbk
          omega
      case measure => simp [intOf]; omega
    · obtain rfl : k = X.length := by omega
      go_wp2
      go_ret
      exact ⟨U, rfl, hO, hb⟩
theorem c_laws_toRoutine (X : List Part2) (h : Int) (v : Value) (w : World) (hr : RdP w v X) (hn : X.length + sumP X ≤ 1048576) :
    Calls Tryz.prog 8 #[.agg #[.int .i64 h, v]] w fun e w' => ∃ g U, e = .returned (.agg #[.int .i64 h, .slice (some ⟨g, 0, none⟩) X.length X.length]) ∧ OwnP 2 w.heap.size w' g X X.length X.length U ∧ Below w.heap.size w w' := by
  have h' := hr
  obtain ⟨a1, cap1, rfl, hl1, _⟩ := h'
  go_enter Tryz.func8, Tryz.ntmps8
  go_wp2_with fail
  refine (c_laws_toPartS X _ _ (hr.below (by (repeat (first | (with_reducible assumption) | (with_reducible exact Below.refl _ _) | (with_reducible refine Below.setCell ?_ (by first | (simp; done) | (simp; omega)) _) | (with_reducible refine Below.al ?_ _) | (with_reducible refine Below.dr ?_) | (with_reducible refine Below.drN ?_ _) | (with_reducible refine Below.tr ?_ (by with_reducible assumption)))))) hn).mono ?_; rintro e w1 ⟨U, rfl, hown, hb1⟩; obtain ⟨hc1, hf1⟩ := bcell hb1; have hz1_0 : w.heap.size < w1.heap.size := Nat.lt_of_lt_of_le (by first | omega | (simp; done) | (simp; omega)) hb1.size; have hz1_1 : w.heap.size + 1 < w1.heap.size := Nat.lt_of_lt_of_le (by first | omega | (simp; done) | (simp; omega)) hb1.size; have hz1_2 : w.heap.size + 1 + 1 < w1.heap.size := Nat.lt_of_lt_of_le (by first | omega | (simp; done) | (simp; omega)) hb1.size
  go_wp2
  refine bodyPost_ret (v := .agg #[.int .i64 h, .slice (some ⟨w.heap.size + 1 + 1 + 1, 0, none⟩) X.length X.length]) (by simp [results, Tryz.results8, go_sem, hc1]) rfl ⟨_, U, rfl, ?_, ?_⟩
  · have hown' : OwnP 2 (w.heap.size + 1 + 1 + 1) w1 (w.heap.size + 1 + 1 + 1) X X.length X.length U := by simpa using hown
    exact (((hown'.setBelow (by show w.heap.size + 1 + 1 < _; omega) _).setBelow (by show w.heap.size + 1 < _; omega) _).setBelow (by show w.heap.size + 1 < _; omega) _).low (by omega)
  · (repeat (first | (with_reducible assumption) | (with_reducible exact Below.refl _ _) | (with_reducible refine Below.setCell ?_ (by first | (simp; done) | (simp; omega)) _) | (with_reducible refine Below.al ?_ _) | (with_reducible refine Below.dr ?_) | (with_reducible refine Below.drN ?_ _) | (with_reducible refine Below.tr ?_ (by with_reducible assumption))))
set_option maxRecDepth 100000 in
theorem c_laws_eqPart (p : List Int) (n : Int) (v1 v2 : Value) (w : World) (h1 : RdI w v1 p) (h2 : RdI w v2 p) :
    Calls Tryz.prog 98 #[.agg #[v1, .int .i64 n], .agg #[v2, .int .i64 n]] w fun e w' => e = .returned (.bool true) ∧ Below w.heap.size w w' := by
  have h1' := h1
  have h2' := h2
  obtain ⟨a1, cap1, rfl, hl1, _⟩ := h1'
  obtain ⟨a2, cap2, rfl, hl2, _⟩ := h2'
  have tt : (n != n) = false := by simp
  go_enter Tryz.func98, Tryz.ntmps98
  go_wp2_with fail
  refine (eq_self p _ _ _ ((h1.below ((Below.refl _ _).al _)).below ((Below.refl _ _).al _)) ((h2.below ((Below.refl _ _).al _)).below ((Below.refl _ _).al _))).mono ?_; rintro e w1 ⟨rfl, hb1⟩; obtain ⟨hc1, hf1⟩ := bcell hb1; have hz1_0 : w.heap.size < w1.heap.size := Nat.lt_of_lt_of_le (by first | omega | (simp; done) | (simp; omega)) hb1.size; have hz1_1 : w.heap.size + 1 < w1.heap.size := Nat.lt_of_lt_of_le (by first | omega | (simp; done) | (simp; omega)) hb1.size
  go_wp2
  go_ret
  exact ⟨rfl, by (repeat (first | (with_reducible assumption) | (with_reducible exact Below.refl _ _) | (with_reducible refine Below.setCell ?_ (by first | (simp; done) | (simp; omega)) _) | (with_reducible refine Below.al ?_ _) | (with_reducible refine Below.dr ?_) | (with_reducible refine Below.drN ?_ _) | (with_reducible refine Below.tr ?_ (by with_reducible assumption))))⟩
set_option maxHeartbeats 2000000 in
set_option maxRecDepth 100000 in
theorem c_laws_eqPartS (X : List Part2) (v1 v2 : Value) (w : World) (h1 : RdP w v1 X) (h2 : RdP w v2 X) :
    Calls Tryz.prog 55 #[v1, v2] w fun e w' => e = .returned (.bool true) ∧ Below w.heap.size w w' := by
  have h1' := h1
  have h2' := h2
  obtain ⟨a1, cap1, rfl, hl1, -⟩ := h1'
  obtain ⟨a2, cap2, rfl, hl2, -⟩ := h2'
  have HH1 := Lib.hid h1
  have HH2 := Lib.hid h2
  have hb0 : ((X.length : Int) != (X.length : Int)) = false := by simp
  clear h1 h2
  go_enter Tryz.func55, Tryz.ntmps55
  go_wp2
  go_loopw [5] (fun i wr => ∃ k : Nat, k ≤ X.length ∧ i = .int .i64 k ∧ Below w.heap.size w wr) (fun i _ => X.length - (intOf i).toNat)
  case atStart => exact ⟨0, by omega, rfl, Below.refl _ _⟩
  case round =>
    obtain ⟨k, hk, rfl, hb⟩ := hrel
    obtain ⟨wo, rfl⟩ : ∃ wo : World, wo = wr := ⟨_, rfl⟩
    by_cases hlt : k < X.length
    · obtain ⟨a', cap', he, -, hc⟩ := HH1.out
      cases he
      obtain ⟨b1, o1, u1, rfl, x0, x1, hu1⟩ := hc k hlt
      clear hc
      obtain ⟨a'', cap'', he, -, hc⟩ := HH2.out
      cases he
      obtain ⟨b2, o2, u2, rfl, y0, y1, hu2⟩ := hc k hlt
      clear hc
      have x0 := keepc hb x0
      have x1 := keepc hb x1
      have y0 := keepc hb y0
      have y1 := keepc hb y1
      have hu1 := hu1.below hb
      have hu2 := hu2.below hb
      have hin0 : (0 : Int) ≤ (k : Int) := Int.natCast_nonneg _
      have hin1 : (k : Int) < (X.length : Int) := by omega
      obtain ⟨n, Hn⟩ : ∃ n, Hid (X[k].2 = n) := ⟨X[k].2, Lib.hid rfl⟩
      obtain ⟨p, Hp⟩ : ∃ p, Hid (X[k].1 = p) := ⟨X[k].1, Lib.hid rfl⟩
      rw [Hn.out] at x1 y1
      rw [Hp.out] at hu1 hu2
      go_wp2_with fail
      go_region_held3 (fun w' => w'.cell? ⟨b1, o1 + k * 2, none⟩ = some u1 ∧ w'.cell? ⟨b1, o1 + k * 2 + 1, none⟩ = some (.int .i64 n) ∧ w'.cell? ⟨b2, o2 + k * 2, none⟩ = some u2 ∧ w'.cell? ⟨b2, o2 + k * 2 + 1, none⟩ = some (.int .i64 n))
        (go_keep)
        ((go_at_call 98; refine (c_laws_eqPart p n _ _ _ (hu1.below ((Below.refl _ _).dr)) (hu2.below ((Below.refl _ _).dr))).mono ?_; rintro e w4 ⟨rfl, hb4⟩; have hb4' := below_drew hb4; have q0 := keepc hb4' x0; have q1 := keepc hb4' x1; have q2 := keepc hb4' y0; have q3 := keepc hb4' y1))
      go_wp2
      go_roundw
      case rel => exact ⟨k + 1, by omega, by go_num, hb.tr hb4'⟩
      case measure => simp [intOf]; omega
    · go_wp2
      go_ret
      exact ⟨rfl, hb⟩
theorem c_laws_eqRoutine (X : List Part2) (h : Int) (v1 v2 : Value) (w : World) (h1 : RdP w v1 X) (h2 : RdP w v2 X) :
    Calls Tryz.prog 11 #[.agg #[.int .i64 h, v1], .agg #[.int .i64 h, v2]] w fun e w' => e = .returned (.bool true) ∧ Below w.heap.size w w' := by
  have h1' := h1
  have h2' := h2
  obtain ⟨a1, cap1, rfl, hl1, _⟩ := h1'
  obtain ⟨a2, cap2, rfl, hl2, _⟩ := h2'
  have tt : (h != h) = false := by simp
  go_enter Tryz.func11, Tryz.ntmps11
  go_wp2_with fail
  refine (c_laws_eqPartS X _ _ _ ((h1.below ((Below.refl _ _).al _)).below ((Below.refl _ _).al _)) ((h2.below ((Below.refl _ _).al _)).below ((Below.refl _ _).al _))).mono ?_; rintro e w1 ⟨rfl, hb1⟩
  go_wp2
  go_ret
  exact ⟨rfl, by (repeat (first | (with_reducible assumption) | (with_reducible exact Below.refl _ _) | (with_reducible refine Below.setCell ?_ (by first | (simp; done) | (simp; omega)) _) | (with_reducible refine Below.al ?_ _) | (with_reducible refine Below.dr ?_) | (with_reducible refine Below.drN ?_ _) | (with_reducible refine Below.tr ?_ (by with_reducible assumption))))⟩
end Go.Proofs.YtjokodlappeapaaGreatDoor
