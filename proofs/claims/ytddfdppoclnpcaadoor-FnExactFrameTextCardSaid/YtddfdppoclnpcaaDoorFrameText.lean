/- The law FnExactFrameText returns true for all frames. The row lists strconv's tables as the program's text lays them (the card ties them). -/
import Derived.Test.YtddfdppoclnpcaaDoorDotC
import Derived.Test.YtddfdppoclnpcaaDoorFrames2
namespace Go.Proofs.YtddfdppoclnpcaaDoor
open Go.ChangeShapes Go.WideShapes Go.ChangeAt Go.RowKit
set_option linter.unusedVariables false
set_option linter.unusedSimpArgs false
def frmTo (t : Int) (xs : List Dot5) (k : Nat) : ByteArray := (xs.take k).foldl (fun s x => s ++ (dotT x ++ ⟨#[10]⟩)) (⟨#[116, 105, 99, 107, 32]⟩ ++ decT t ++ ⟨#[10]⟩)
theorem frmTo_zero (t : Int) (xs : List Dot5) : frmTo t xs 0 = ⟨#[116, 105, 99, 107, 32]⟩ ++ decT t ++ ⟨#[10]⟩ := rfl
theorem frmTo_succ (t : Int) (xs : List Dot5) (k : Nat) (hk : k < xs.length) : frmTo t xs (k + 1) = frmTo t xs k ++ (dotT xs[k] ++ ⟨#[10]⟩) := by
  unfold frmTo
  rw [List.take_succ_eq_append_getElem hk, List.foldl_append]
  rfl
theorem frmTo_size {t : Int} {xs : List Dot5} (ht : inI t) (hx : ∀ x ∈ xs, dotIn x) (k : Nat) (hk : k ≤ xs.length) : (frmTo t xs k).size ≤ 26 + 101 * k := by
  induction k with
  | zero =>
    rw [frmTo_zero, ByteArray.size_append, ByteArray.size_append]
    have := decT_size ht
    show 5 + _ + 1 ≤ _
    omega
  | succ k ih =>
    rw [frmTo_succ t xs k (by omega), ByteArray.size_append, ByteArray.size_append]
    have h1 := ih (by omega)
    have h2 := dotT_size (hx xs[k] (List.getElem_mem _))
    show _ + (_ + 1) ≤ _
    omega
set_option maxHeartbeats 4000000 in
set_option maxRecDepth 100000 in
theorem c_impl_FrameText (t : Int) (xs : List Dot5) (v : Value) (w : World) (hr : RdRow 5 rowD w v xs) (ht : inI t) (hx : ∀ x ∈ xs, dotIn x) (hl : xs.length ≤ 2000000) (hT : Tab w) :
    Calls Tryd.prog 17 #[.agg #[.int .i64 t, v]] w fun e w' => e = .returned (.string (frmTo t xs xs.length)) ∧ Below w.heap.size w w' := by
  obtain ⟨a1, cap1, rfl, hl1, hc1⟩ := hr
  obtain ⟨W0, hW0⟩ : ∃ W0, W0 = w.alloc (Obj.cells #[Value.int IntKind.i64 t, Value.slice a1 xs.length cap1] 45) := ⟨_, rfl⟩
  have k0 : W0.cell? ⟨w.heap.size, 0, none⟩ = some (.int .i64 t) := by rw [hW0]; go_simp
  have k1 : W0.cell? ⟨w.heap.size, 1, none⟩ = some (.slice a1 xs.length cap1) := by rw [hW0]; go_simp
  have B0 : Below w.heap.size w W0 := by rw [hW0]; (repeat (first | (with_reducible assumption) | (with_reducible exact Below.refl _ _) | (with_reducible refine Below.setCell ?_ (by first | (simp; done) | (simp; omega)) _) | (with_reducible refine Below.al ?_ _) | (with_reducible refine Below.dr ?_) | (with_reducible refine Below.drN ?_ _) | (with_reducible refine Below.tr ?_ (by with_reducible assumption))))
  have hTab := tab_below hT B0
  have HC := Lib.hid hc1
  have HX := Lib.hid hx
  have HZ := Lib.hid (fun k hk => frmTo_size ht hx k hk)
  have HS := Lib.hid (frmTo_succ t xs)
  have H0 := Lib.hid (frmTo_zero t xs)
  have hd1 := decT_size ht
  obtain ⟨D1, HD1⟩ : ∃ D, Hid (decT t = D) := ⟨_, Lib.hid rfl⟩
  rw [HD1.out] at hd1 H0
  have s1 : ¬ 9223372036854775807 < 5 + D1.size := by omega
  have s2 : ¬ 9223372036854775807 < 5 + D1.size + 1 := by omega
  clear hc1 hx
  go_enter Tryd.func17, Tryd.ntmps17
  go_wp2_with fail
  rw [← hW0]
  clear hW0
  refine (c_decI t D1 HD1 _ ht hTab).mono ?_; rintro e w1 ⟨rfl, hb1⟩
  have k0 := keepc hb1 k0
  have k1 := keepc hb1 k1
  have B1 := B0.tr hb1
  go_wp2
  go_loopw [3, 14] (fun s i wr => ∃ k : Nat, k ≤ xs.length ∧ i = .int .i64 k ∧ s = .string (frmTo t xs k) ∧ Below w.heap.size w wr) (fun _ i _ => xs.length - (intOf i).toNat)
  case atStart => exact ⟨0, by omega, rfl, by rw [H0.out], B1⟩
  case round =>
    obtain ⟨k, hk, rfl, rfl, hb⟩ := hrel
    by_cases hlt : k < xs.length
    · obtain ⟨b1, o1, rfl, hcell⟩ := HC.out k hlt
      have hS := Lib.hid (HS.out k hlt)
      have hz := HZ.out k hk
      have hin := HX.out xs[k] (List.getElem_mem hlt)
      obtain ⟨⟨p, h, n, d, y⟩, Hx⟩ : ∃ x, Hid (xs[k] = x) := ⟨_, Lib.hid rfl⟩
      rw [Hx.out] at hS hin hcell
      obtain ⟨hp, hh, hn, hd, hy⟩ := hin
      have hE := dotT_size (x := (p, h, n, d, y)) ⟨hp, hh, hn, hd, hy⟩
      obtain ⟨E, HE⟩ : ∃ E, Hid (dotT (p, h, n, d, y) = E) := ⟨_, Lib.hid rfl⟩
      obtain ⟨S, HSk⟩ : ∃ S, Hid (frmTo t xs k = S) := ⟨_, Lib.hid rfl⟩
      rw [HE.out] at hS hE
      rw [HSk.out] at hS hz ⊢
      have y0 := keepc hb (hcell 0 _ rfl)
      have y1 := keepc hb (hcell 1 _ rfl)
      have y2 := keepc hb (hcell 2 _ rfl)
      have y3 := keepc hb (hcell 3 _ rfl)
      have y4 := keepc hb (hcell 4 _ rfl)
      rw [Nat.add_zero] at y0
      have hbb := World.block_lt_of_cell? wr _ y0
      have hTk := tab_below (tab_below hT hb) ((Below.refl _ _).al (Obj.cells #[Value.int IntKind.i64 p, Value.int IntKind.i64 h, Value.int IntKind.i64 n, Value.int IntKind.i64 d, Value.int IntKind.i64 y] 35))
      have s3 : ¬ 9223372036854775807 < E.size + 1 := by omega
      have s4 : ¬ 9223372036854775807 < S.size + (E.size + 1) := by omega
      have hB2 := hb.al (Obj.cells #[Value.int IntKind.i64 p, Value.int IntKind.i64 h, Value.int IntKind.i64 n, Value.int IntKind.i64 d, Value.int IntKind.i64 y] 35)
      clear hcell
      dsimp only at y0 y1 y2 y3 y4
      go_wp2_with fail
      refine (c_impl_DotText p h n d y _ hp hn hd hy hTk).mono ?_; rintro e w2 ⟨rfl, hb2⟩; rw [HE.out]
      go_wp2
      go_roundw
      case rel => exact ⟨k + 1, by omega, by go_num, by rw [hS.out], hB2.tr hb2⟩
      case measure => simp [intOf]; omega
    · obtain rfl : k = xs.length := by omega
      go_wp2
      go_ret
      exact ⟨rfl, hb⟩
set_option maxHeartbeats 4000000 in
set_option maxRecDepth 100000 in
theorem c_spec_FrameText (t : Int) (xs : List Dot5) (v : Value) (w : World) (hr : RdRow 5 rowD w v xs) (ht : inI t) (hx : ∀ x ∈ xs, dotIn x) (hl : xs.length ≤ 2000000) :
    Calls Tryd.prog 15 #[.agg #[.int .i64 t, v]] w fun e w' => e = .returned (.string (frmTo t xs xs.length)) ∧ Below w.heap.size w w' := by
  obtain ⟨a1, cap1, rfl, hl1, hc1⟩ := hr
  obtain ⟨W0, hW0⟩ : ∃ W0, W0 = w.alloc (Obj.cells #[Value.int IntKind.i64 t, Value.slice a1 xs.length cap1] 45) := ⟨_, rfl⟩
  have k0 : W0.cell? ⟨w.heap.size, 0, none⟩ = some (.int .i64 t) := by rw [hW0]; go_simp
  have k1 : W0.cell? ⟨w.heap.size, 1, none⟩ = some (.slice a1 xs.length cap1) := by rw [hW0]; go_simp
  have B0 : Below w.heap.size w W0 := by rw [hW0]; (repeat (first | (with_reducible assumption) | (with_reducible exact Below.refl _ _) | (with_reducible refine Below.setCell ?_ (by first | (simp; done) | (simp; omega)) _) | (with_reducible refine Below.al ?_ _) | (with_reducible refine Below.dr ?_) | (with_reducible refine Below.drN ?_ _) | (with_reducible refine Below.tr ?_ (by with_reducible assumption))))
  have HC := Lib.hid hc1
  have HX := Lib.hid hx
  have HZ := Lib.hid (fun k hk => frmTo_size ht hx k hk)
  have HS := Lib.hid (frmTo_succ t xs)
  have H0 := Lib.hid (frmTo_zero t xs)
  have hd1 := decT_size ht
  obtain ⟨D1, HD1⟩ : ∃ D, Hid (decT t = D) := ⟨_, Lib.hid rfl⟩
  rw [HD1.out] at hd1 H0
  have s1 : ¬ 9223372036854775807 < 5 + D1.size := by omega
  have s2 : ¬ 9223372036854775807 < 5 + D1.size + 1 := by omega
  clear hc1 hx
  go_enter Tryd.func15, Tryd.ntmps15
  go_wp2_with fail
  rw [← hW0]
  clear hW0
  refine (c_decS t D1 HD1 _ ht).mono ?_; rintro e w1 ⟨rfl, hb1⟩
  have k0 := keepc hb1 k0
  have k1 := keepc hb1 k1
  have B1 := B0.tr hb1
  go_wp2
  go_loopw [3, 4] (fun s i wr => ∃ k : Nat, k ≤ xs.length ∧ i = .int .i64 k ∧ s = .string (frmTo t xs k) ∧ wr.cell? ⟨w.heap.size, 1, none⟩ = some (.slice a1 xs.length cap1) ∧ Below w.heap.size w wr) (fun _ i _ => xs.length - (intOf i).toNat)
  case atStart => exact ⟨0, by omega, rfl, by rw [H0.out], k1, B1⟩
  case round =>
    clear k0 k1
    obtain ⟨k, hk, rfl, rfl, k1, hb⟩ := hrel
    by_cases hlt : k < xs.length
    · obtain ⟨b1, o1, rfl, hcell⟩ := HC.out k hlt
      have hS := Lib.hid (HS.out k hlt)
      have hz := HZ.out k hk
      have hin := HX.out xs[k] (List.getElem_mem hlt)
      obtain ⟨⟨p, h, n, d, y⟩, Hx⟩ : ∃ x, Hid (xs[k] = x) := ⟨_, Lib.hid rfl⟩
      rw [Hx.out] at hS hin hcell
      obtain ⟨hp, hh, hn, hd, hy⟩ := hin
      have hE := dotT_size (x := (p, h, n, d, y)) ⟨hp, hh, hn, hd, hy⟩
      obtain ⟨E, HE⟩ : ∃ E, Hid (dotT (p, h, n, d, y) = E) := ⟨_, Lib.hid rfl⟩
      obtain ⟨S, HSk⟩ : ∃ S, Hid (frmTo t xs k = S) := ⟨_, Lib.hid rfl⟩
      rw [HE.out] at hS hE
      rw [HSk.out] at hS hz ⊢
      have y0 := keepc hb (hcell 0 _ rfl)
      have y1 := keepc hb (hcell 1 _ rfl)
      have y2 := keepc hb (hcell 2 _ rfl)
      have y3 := keepc hb (hcell 3 _ rfl)
      have y4 := keepc hb (hcell 4 _ rfl)
      rw [Nat.add_zero] at y0
      have s3 : ¬ 9223372036854775807 < E.size + 1 := by omega
      have s4 : ¬ 9223372036854775807 < S.size + (E.size + 1) := by omega
      clear hcell
      dsimp only at y0 y1 y2 y3 y4
      go_wp2_with fail
      refine (c_spec_DotText p h n d y _ hp hn hd hy).mono ?_; rintro e w2 ⟨rfl, hb2⟩; rw [HE.out]
      go_wp2
      go_roundw
      case rel => exact ⟨k + 1, by omega, by go_num, by rw [hS.out], keepc hb2 k1, hb.tr hb2⟩
      case measure => simp [intOf]; omega
    · obtain rfl : k = xs.length := by omega
      go_wp2
      go_ret
      exact ⟨rfl, hb⟩
namespace fnExactFrameText
set_option maxHeartbeats 4000000 in
set_option maxRecDepth 100000 in
theorem walk_small (xs : List Dot5) (t : Int) (a1 : Option Addr) (cap1 : Nat) (w : World) (h1 : RdRow 5 rowD w (.slice a1 xs.length cap1) xs) (ht : inI t) (hx : ∀ x ∈ xs, dotIn x) (hT : Tab w)
    (hlen : (xs.length : Int) ≤ 1048576) :
    Calls Tryd.prog 5 #[.agg #[.int .i64 t, .slice a1 xs.length cap1]] w fun e w' => e = .returned (.bool true) ∧ Below w.heap.size w w' := by
  have HL := Lib.hid (szLeftD_pos (left := 1048576) (len := xs.length) (by omega))
  have t1 : ¬ szLeftD 1048576 xs.length < 0 := by rw [HL.out]; omega
  have hl1 : (xs.length : Int) ≤ 9223372036854775807 := by omega
  have hxn : xs.length ≤ 1048576 := by omega
  have hx2 : xs.length ≤ 2000000 := by omega
  have HX := Lib.hid hx
  obtain ⟨W0, hW0⟩ : ∃ W0, W0 = w.alloc (Obj.cells #[Value.int IntKind.i64 t, Value.slice a1 xs.length cap1] 40) := ⟨_, rfl⟩
  have k0 : W0.cell? ⟨w.heap.size, 0, none⟩ = some (.int .i64 t) := by rw [hW0]; go_simp
  have k1 : W0.cell? ⟨w.heap.size, 1, none⟩ = some (.slice a1 xs.length cap1) := by rw [hW0]; go_simp
  have B0 : Below w.heap.size w W0 := by rw [hW0]; (repeat (first | (with_reducible assumption) | (with_reducible exact Below.refl _ _) | (with_reducible refine Below.setCell ?_ (by first | (simp; done) | (simp; omega)) _) | (with_reducible refine Below.al ?_ _) | (with_reducible refine Below.dr ?_) | (with_reducible refine Below.drN ?_ _) | (with_reducible refine Below.tr ?_ (by with_reducible assumption))))
  obtain ⟨E, HE⟩ : ∃ E, Hid (frmTo t xs xs.length = E) := ⟨_, Lib.hid rfl⟩
  clear hx
  go_enter Tryd.func5, Tryd.ntmps5
  go_wp2_with fail
  rw [← hW0]
  clear hW0
  refine (c_laws_szFrame _ _ _ _ _ _ hl1 (by omega)).mono ?_; rintro e w1 ⟨rfl, hb1⟩
  have k0 := keepc hb1 k0
  have k1 := keepc hb1 k1
  have B1 := B0.tr hb1
  go_wp2_with fail
  refine (c_laws_toFrame xs t _ _ (h1.below B1) hxn).mono ?_; rintro e w2 ⟨g2, rfl, hr2, hb2⟩
  have k0 := keepc hb2 k0
  have k1 := keepc hb2 k1
  have B2 := B1.tr hb2
  go_wp2_with fail
  refine (c_spec_FrameText t xs _ _ hr2 ht HX.out hx2).mono ?_; rintro e w3 ⟨rfl, hb3⟩; rw [HE.out]
  have k0 := keepc hb3 k0
  have k1 := keepc hb3 k1
  have B3 := B2.tr hb3
  go_wp2_with fail
  refine (c_laws_toFrame xs t _ _ (h1.below B3) hxn).mono ?_; rintro e w4 ⟨g4, rfl, hr4, hb4⟩
  have k0 := keepc hb4 k0
  have k1 := keepc hb4 k1
  have B4 := B3.tr hb4
  have m0 : (w4.alloc (Obj.cells #[Value.int IntKind.i64 t, .slice (some ⟨g4, 0, none⟩) xs.length xs.length] 45)).cell? ⟨w4.heap.size, 0, none⟩ = some (.int .i64 t) := World.cell?_alloc_at _ _ _ _ rfl
  have m1 : (w4.alloc (Obj.cells #[Value.int IntKind.i64 t, .slice (some ⟨g4, 0, none⟩) xs.length xs.length] 45)).cell? ⟨w4.heap.size, 1, none⟩ = some (.slice (some ⟨g4, 0, none⟩) xs.length xs.length) := World.cell?_alloc_at _ _ _ _ rfl
  have BA : Below w4.heap.size w4 (w4.alloc (Obj.cells #[Value.int IntKind.i64 t, .slice (some ⟨g4, 0, none⟩) xs.length xs.length] 45)) := (Below.refl _ _).al _
  have k0 := al_c (Obj.cells #[Value.int IntKind.i64 t, .slice (some ⟨g4, 0, none⟩) xs.length xs.length] 45) k0
  have k1 := al_c (Obj.cells #[Value.int IntKind.i64 t, .slice (some ⟨g4, 0, none⟩) xs.length xs.length] 45) k1
  have hr5 := hr4.below BA
  have hB5 := B4.tr BA
  have hT5 := tab_below hT hB5
  go_wp2_with fail
  generalize (w4.alloc (Obj.cells #[Value.int IntKind.i64 t, .slice (some ⟨g4, 0, none⟩) xs.length xs.length] 45)) = W5 at *
  generalize w4.heap.size = n4 at *
  refine (c_impl_FrameText t xs _ _ hr5 ht HX.out hx2 hT5).mono ?_; rintro e w6 ⟨rfl, hb6⟩; rw [HE.out]
  have k0 := keepc hb6 k0
  have k1 := keepc hb6 k1
  have m0 := keepc hb6 m0
  have m1 := keepc hb6 m1
  have hr6 := hr5.below hb6
  have B6 := hB5.tr hb6
  have hA := h1.below B6
  go_wp2_with fail
  go_region_held3 (fun w' => w'.cell? ⟨w.heap.size, 0, none⟩ = some (.int .i64 t) ∧ w'.cell? ⟨w.heap.size, 1, none⟩ = some (.slice a1 xs.length cap1) ∧ w'.cell? ⟨n4, 0, none⟩ = some (.int .i64 t) ∧ w'.cell? ⟨n4, 1, none⟩ = some (.slice (some ⟨g4, 0, none⟩) xs.length xs.length))
    (go_keep)
    (first
      | (go_at_call 16; refine (c_laws_toFrame xs t _ _ (by exact hA) hxn).mono ?_; rintro e w7 ⟨g7, rfl, hr7, hb7⟩; first | (have hb7 := below_drew hb7; have q0 := keepc hb7 k0; have q1 := keepc hb7 k1; have q2 := keepc hb7 m0; have q3 := keepc hb7 m1; have hr67 := hr6.below hb7) | (have q0 := keepc hb7 k0; have q1 := keepc hb7 k1; have q2 := keepc hb7 m0; have q3 := keepc hb7 m1; have hr67 := hr6.below hb7))
      | (go_at_call 18; refine (c_laws_eqFrame xs t _ _ _ hr67 hr7).mono ?_; rintro e w8 ⟨rfl, hb8⟩; have r0 := keepc hb8 q0; have r1 := keepc hb8 q1; have r2 := keepc hb8 q2; have r3 := keepc hb8 q3))
  go_wp2
  go_ret
  exact ⟨rfl, (B6.tr hb7).tr hb8⟩
set_option maxHeartbeats 1000000 in
theorem walk (v0 : Value) (w : World) (hT : Tab w) (a0 : Arg_FrameB w v0) : Calls Tryd.prog 5 #[v0] w fun e w' => e = .returned (.bool true) ∧ Below w.heap.size w w' := by
  obtain ⟨v1, xs, t, rfl, hr, ht, hx⟩ := a0
  obtain ⟨a1, cap1, rfl, hl, hc⟩ := hr
  have hl1 : (xs.length : Int) ≤ 9223372036854775807 := by omega
  by_cases h : (xs.length : Int) ≤ 1048576
  · exact walk_small xs t a1 cap1 w ⟨a1, cap1, rfl, hl, hc⟩ ht hx hT h
  · have HL := Lib.hid (szLeftD_neg (left := 1048576) (len := xs.length) (by omega))
    have t1 : szLeftD 1048576 xs.length < 0 := by rw [HL.out]; decide
    clear hc hx
    go_enter Tryd.func5, Tryd.ntmps5
    go_wp2_with fail
    refine (c_laws_szFrame _ _ _ _ _ _ hl1 (by omega)).mono ?_; rintro e w1 ⟨rfl, hb1⟩
    go_wp2
    go_ret
    exact ⟨rfl, by (repeat (first | (with_reducible assumption) | (with_reducible exact Below.refl _ _) | (with_reducible refine Below.setCell ?_ (by first | (simp; done) | (simp; omega)) _) | (with_reducible refine Below.al ?_ _) | (with_reducible refine Below.dr ?_) | (with_reducible refine Below.drN ?_ _) | (with_reducible refine Below.tr ?_ (by with_reducible assumption))))⟩
theorem own : ownKnob Tryd.prog.godebug = none := by kernel_rfl
theorem laidOut : laidOutB Tryd.prog = true := by kernel_rfl
theorem door_met (os : Os) (args : Array Value) : laidMetH Tryd.prog Rows.fnExactFrameTextRow.laid ((World.doorLaid Tryd.prog 24 os).forCall (fun _ _ => 0) ⟨#[], args, []⟩).memory :=
  laidMetH_of_parts3 (fuel := 8) (laidMet_of_run' 8 (by kernel_rfl) (by kernel_rfl)) (by kernel_rfl) (by kernel_rfl)
set_option maxRecDepth 100000 in
theorem lifted (os : Os) (started : os.Started) (H : Type) (enc : TypeId × Value → H) :
    ReturnsInHanded {} Tryd.checked os 5 .any (fun w args => (Rows.fnExactFrameTextSpec.pre enc Tryd.prog Tryd.f5 [] false w args ∧ laidMetH Tryd.prog Rows.fnExactFrameTextRow.laid w) ∧ sizedMet enc Tryd.prog Tryd.f5 (OpenSpec.ofChange Rows.fnExactFrameTextSpec) false w args)
      (Rows.fnExactFrameTextSpec.post enc Tryd.prog Tryd.f5 false true false false) := by
  refine returnsInHanded_of_change_and (C := Tryd.checked) (X := fun w _ => laidMetH Tryd.prog Rows.fnExactFrameTextRow.laid w) (fun _ _ _ hh h => h.of_heap hh) own started (by kernel_rfl) Tryd.func5
    (ChangeSpec.witness_shaped (enc := enc) (C := Tryd.checked) (os := os) (X := fun w _ => laidMetH Tryd.prog Rows.fnExactFrameTextRow.laid w) false (World.doorLaid Tryd.prog 24 os) #[.agg #[.int .i64 0, .slice none 0 0]] 8 rfl (World.shaped_of_RefB (by kernel_rfl) (by kernel_rfl)) (by kernel_rfl) (by kernel_rfl) (by kernel_rfl) (door_met os _)) ?_
  intro W base args ds gs before hval0 hW _ _ hL _
  have hval : ∀ (j : Nat) t v, Tryd.f5.params[j]? = some t → args[j]? = some v → Value.okWide Tryd.prog W .any base t v := hval0
  have hW' := hW
  obtain ⟨p, q, hA0, hV, rfl, hfz, hnd⟩ := hW
  have hA : DataW.TrodAll enc Tryd.prog W 0 (fun _ => true) true Tryd.f5.params.toList args.toList ds p := hA0
  rw [Tryd.params5] at hA hval
  obtain ⟨v0, vs0, d0, ds0, p0, q0, hargs, rfl, rfl, h0, r0⟩ := trodAll_cons hA
  obtain ⟨rfl, rfl, rfl⟩ := trodAll_nil r0
  obtain rfl : args = #[v0] := by cases args; simp_all
  obtain ⟨rfl, rfl⟩ := trodVars_none hV
  have k0 := h0
  have lt0 : ∀ x ∈ p0, x.block < W.heap.size := by obtain ⟨m, hm⟩ := k0; exact DataW.trod_lt m _ _ _ hm
  have a0 := open_FrameB (hval 0 40 v0 rfl rfl) h0
  clear hA0 hval0
  refine (walk v0 W (tab_of hL) a0).mono fun e W' ⟨he, bel⟩ => ?_
  subst he
  exact ⟨_, rfl, _, _, _, [], _, [], hW', trodAll_mk1 (shut_bool Tryd.underlying4 _), (trodAll_cons_mk (Below.trod laidOut (by kernel_rfl) (of_decide_eq_true (by kernel_rfl)) k0 bel lt0) trodAll_mk0), rfl, bel.frame _, fun h => by cases h⟩
theorem over : Rows.fnExactFrameTextRow.holds Tryd.pinned (OpenSpec.ofChange Rows.fnExactFrameTextSpec) :=
  OpenClaim.holds_of_wide 5 Tryd.f5 rfl rfl rfl rfl rfl rfl rfl ⟨rfl, rfl, rfl, rfl, rfl⟩ rfl rfl rfl rfl rfl (by kernel_rfl) Tryd.func5 (by kernel_rfl)
    (of_decide_eq_true (by kernel_rfl)) (by unfold Func.isWrapper; first | (rw [if_pos (by decide +kernel)]; kernel_rfl) | (rw [if_neg (by decide +kernel)]; exact ⟨rfl, rfl⟩))
    (fun os started H enc _ => lifted os started H enc)
theorem proved : Rows.FnExactFrameTextCardSaid :=
  Claim7.holds_tied_plain_at .later [] Rows.fnExactFrameTextCard.laidKinds true Rows.fnExactFrameTextCard.stood.harness false
    over (fun _ h => by cases h) (by kernel_rfl) (fun _ h => by cases h) fnExactFrameText_row_tie rfl ⟨rfl, rfl⟩ (by kernel_rfl) rfl
    (fun f fn hf hfn => by
      obtain rfl : f = 5 := Option.some.inj ((show Tryd.prog.funcNamed Rows.fnExactFrameTextRow.func = some 5 by kernel_rfl).symm.trans hf) |>.symm
      obtain rfl : fn = Tryd.f5 := (Option.some.inj (Tryd.func5.symm.trans hfn)).symm
      exact ⟨by kernel_rfl, fun j t ht => by
        rw [Tryd.params5] at ht
        have hm : t ∈ [40] := by simpa using Array.mem_of_getElem? ht
        have hall : ([40].all fun u => !Tryd.prog.wantsStandIn u) = true := by kernel_rfl
        exact (show Tryd.prog.wantsStandIn t = false by simpa using List.all_eq_true.1 hall t hm)⟩)
    (by kernel_rfl)
end fnExactFrameText
end Go.Proofs.YtddfdppoclnpcaaDoor
