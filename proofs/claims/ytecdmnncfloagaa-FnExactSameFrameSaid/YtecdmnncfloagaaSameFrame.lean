/- FnExactSameFrame: SameFrame returns what the reference's returns. Proved for every argument that the statement allows. -/
import Derived.Test.YtecdmnncfloagaaFrames3
import Derived.Test.YtecdmnncfloagaaArgsF
namespace Go.Proofs.Ytecdmnncfloagaa
open Go.ChangeShapes Go.WideShapes Go.ChangeAt Go.RowKit
set_option linter.unusedVariables false
namespace fnExactSameFrame
theorem to' (xs : List Dot5) (t : Int) (v : Value) (w : World) (h : RdRow 5 rowD w v xs) (hn : xs.length ≤ 1048576) (w0 : World) (hw : Below w0.heap.size w0 w) :
    Calls Try.prog 17 #[.agg #[.int .i64 t, v]] w fun e w' => ∃ g, e = .returned (.agg #[.int .i64 t, .slice (some ⟨g, 0, none⟩) xs.length xs.length]) ∧ RdRow 5 rowD w' (.slice (some ⟨g, 0, none⟩) xs.length xs.length) xs ∧ Below w0.heap.size w0 w' ∧ Below w.heap.size w w' :=
  (c_laws_toFrame xs t v w h hn).mono fun _ _ ⟨g, he, hr, hb⟩ => ⟨g, he, hr, hw.tr hb, hb⟩
set_option maxHeartbeats 4000000 in
set_option maxRecDepth 100000 in
theorem walk_small (xs ys : List Dot5) (t t' : Int) (a1 a2 : Option Addr) (cap1 cap2 : Nat) (w : World) (h1 : RdRow 5 rowD w (.slice a1 xs.length cap1) xs) (h2 : RdRow 5 rowD w (.slice a2 ys.length cap2) ys)
    (hx : (xs.length : Int) ≤ 1048576) (hy : (ys.length : Int) ≤ 1048576 - xs.length) :
    Calls Try.prog 3 #[.agg #[.int .i64 t, .slice a1 xs.length cap1], .agg #[.int .i64 t', .slice a2 ys.length cap2]] w fun e w' => e = .returned (.bool true) ∧ Below w.heap.size w w' := by
  have HL := Lib.hid (szLeftD_pos (left := 1048576) (len := xs.length) (by omega))
  have t1 : ¬ szLeftD 1048576 xs.length < 0 := by rw [HL.out]; omega
  have HL2 := Lib.hid (szLeftD_pos (left := szLeftD 1048576 xs.length) (len := ys.length) (by rw [HL.out]; omega))
  have t2 : ¬ szLeftD (szLeftD 1048576 xs.length) ys.length < 0 := by rw [HL2.out, HL.out]; omega
  have hl1 : (xs.length : Int) ≤ 9223372036854775807 := by omega
  have hl2 : (ys.length : Int) ≤ 9223372036854775807 := by omega
  have hb3 : 0 ≤ szLeftD 1048576 xs.length ∧ szLeftD 1048576 xs.length ≤ 1048576 := by rw [HL.out]; omega
  have hxn : xs.length ≤ 1048576 := by omega
  have hyn : ys.length ≤ 1048576 := by omega
  go_enter Try.func3, Try.ntmps3
  go_wp2_with fail
  refine (c_laws_szFrame _ _ _ _ _ _ hl1 (by omega)).mono ?_; rintro e w1 ⟨rfl, hb1⟩; obtain ⟨hc1, hf1⟩ := bcell hb1; have hz1_0 : w.heap.size < w1.heap.size := Nat.lt_of_lt_of_le (by first | omega | (simp; done) | (simp; omega)) hb1.size; have hz1_1 : w.heap.size + 1 < w1.heap.size := Nat.lt_of_lt_of_le (by first | omega | (simp; done) | (simp; omega)) hb1.size
  go_wp2_with fail
  refine (c_laws_szFrame _ _ _ _ _ _ hl2 hb3).mono ?_; rintro e w2 ⟨rfl, hb2⟩; obtain ⟨hc2, hf2⟩ := bcell hb2; have hz2_0 : w.heap.size < w2.heap.size := Nat.lt_of_lt_of_le (by first | omega | (simp; done) | (simp; omega)) hb2.size; have hz2_1 : w.heap.size + 1 < w2.heap.size := Nat.lt_of_lt_of_le (by first | omega | (simp; done) | (simp; omega)) hb2.size
  have B2 : Below w.heap.size w w2 := by (repeat (first | (with_reducible assumption) | (with_reducible exact Below.refl _ _) | (with_reducible refine Below.setCell ?_ (by first | (simp; done) | (simp; omega)) _) | (with_reducible refine Below.al ?_ _) | (with_reducible refine Below.dr ?_) | (with_reducible refine Below.drN ?_ _) | (with_reducible refine Below.tr ?_ (by with_reducible assumption))))
  have k0 : w2.cell? ⟨w.heap.size, 0, none⟩ = some (.int .i64 t) := by go_simp
  have k1 : w2.cell? ⟨w.heap.size, 1, none⟩ = some (.slice a1 xs.length cap1) := by go_simp
  have k2 : w2.cell? ⟨w.heap.size + 1, 0, none⟩ = some (.int .i64 t') := by go_simp
  have k3 : w2.cell? ⟨w.heap.size + 1, 1, none⟩ = some (.slice a2 ys.length cap2) := by go_simp
  clear hl1 hl2 hb3 hb2 hc2 hf2 hc1 hf1
  go_wp2_with fail
  go_region_held3 (fun w' => w'.cell? ⟨w.heap.size, 0, none⟩ = some (.int .i64 t) ∧ w'.cell? ⟨w.heap.size, 1, none⟩ = some (.slice a1 xs.length cap1) ∧ w'.cell? ⟨w.heap.size + 1, 0, none⟩ = some (.int .i64 t') ∧ w'.cell? ⟨w.heap.size + 1, 1, none⟩ = some (.slice a2 ys.length cap2))
    (go_keep)
    (first
      | (go_at_call_of 17 a1; refine (to' xs t _ _ (h1.below (by (repeat (first | (with_reducible assumption) | (with_reducible exact Below.refl _ _) | (with_reducible refine Below.setCell ?_ (by first | (simp; done) | (simp; omega)) _) | (with_reducible refine Below.al ?_ _) | (with_reducible refine Below.dr ?_) | (with_reducible refine Below.drN ?_ _) | (with_reducible refine Below.tr ?_ (by with_reducible assumption)))))) hxn w2 (by (repeat (first | (with_reducible assumption) | (with_reducible exact Below.refl _ _) | (with_reducible refine Below.setCell ?_ (by first | (simp; done) | (simp; omega)) _) | (with_reducible refine Below.al ?_ _) | (with_reducible refine Below.dr ?_) | (with_reducible refine Below.drN ?_ _) | (with_reducible refine Below.tr ?_ (by with_reducible assumption)))))).mono ?_; rintro e w3 ⟨g3, rfl, hr3, hB3, hb3⟩; obtain ⟨hc3, hf3⟩ := bcell hB3; have hz3_0 : w.heap.size < w3.heap.size := Nat.lt_of_lt_of_le (by first | omega | (simp; done) | (simp; omega)) hB3.size; have hz3_1 : w.heap.size + 1 < w3.heap.size := Nat.lt_of_lt_of_le (by first | omega | (simp; done) | (simp; omega)) hB3.size)
      | (go_at_call_of 17 a2; refine (to' ys t' _ _ (h2.below (by (repeat (first | (with_reducible assumption) | (with_reducible exact Below.refl _ _) | (with_reducible refine Below.setCell ?_ (by first | (simp; done) | (simp; omega)) _) | (with_reducible refine Below.al ?_ _) | (with_reducible refine Below.dr ?_) | (with_reducible refine Below.drN ?_ _) | (with_reducible refine Below.tr ?_ (by with_reducible assumption)))))) hyn w2 (by (repeat (first | (with_reducible assumption) | (with_reducible exact Below.refl _ _) | (with_reducible refine Below.setCell ?_ (by first | (simp; done) | (simp; omega)) _) | (with_reducible refine Below.al ?_ _) | (with_reducible refine Below.dr ?_) | (with_reducible refine Below.drN ?_ _) | (with_reducible refine Below.tr ?_ (by with_reducible assumption)))))).mono ?_; rintro e w4 ⟨g4, rfl, hr4, hB4, hb4⟩; obtain ⟨hc4, hf4⟩ := bcell hB4; have hz4_0 : w.heap.size < w4.heap.size := Nat.lt_of_lt_of_le (by first | omega | (simp; done) | (simp; omega)) hB4.size; have hz4_1 : w.heap.size + 1 < w4.heap.size := Nat.lt_of_lt_of_le (by first | omega | (simp; done) | (simp; omega)) hB4.size)
      | (go_at_call 16; refine (c_spec_SameFrame t t' xs ys _ _ _ (hr3.below hb4) hr4).mono ?_; rintro e w5 ⟨rfl, hb5⟩; have hB5 : Below w2.heap.size w2 w5 := hB4.tr hb5; obtain ⟨hc5, hf5⟩ := bcell hB5; have hz5_0 : w.heap.size < w5.heap.size := Nat.lt_of_lt_of_le (by first | omega | (simp; done) | (simp; omega)) hB5.size; have hz5_1 : w.heap.size + 1 < w5.heap.size := Nat.lt_of_lt_of_le (by first | omega | (simp; done) | (simp; omega)) hB5.size))
  have k0 := keepc hB5 k0
  have k1 := keepc hB5 k1
  have k2 := keepc hB5 k2
  have k3 := keepc hB5 k3
  have BT5 := B2.tr hB5
  go_wp2_with fail
  refine (to' xs t _ _ (h1.below (by (repeat (first | (with_reducible assumption) | (with_reducible exact Below.refl _ _) | (with_reducible refine Below.setCell ?_ (by first | (simp; done) | (simp; omega)) _) | (with_reducible refine Below.al ?_ _) | (with_reducible refine Below.dr ?_) | (with_reducible refine Below.drN ?_ _) | (with_reducible refine Below.tr ?_ (by with_reducible assumption)))))) hxn w5 (by (repeat (first | (with_reducible assumption) | (with_reducible exact Below.refl _ _) | (with_reducible refine Below.setCell ?_ (by first | (simp; done) | (simp; omega)) _) | (with_reducible refine Below.al ?_ _) | (with_reducible refine Below.dr ?_) | (with_reducible refine Below.drN ?_ _) | (with_reducible refine Below.tr ?_ (by with_reducible assumption)))))).mono ?_; rintro e w6 ⟨g6, rfl, hr6, hB6, hb6⟩
  have k0 := keepc hB6 k0
  have k1 := keepc hB6 k1
  have k2 := keepc hB6 k2
  have k3 := keepc hB6 k3
  have BT6 := BT5.tr hB6
  have m0 : (w6.alloc (Obj.cells #[Value.int IntKind.i64 t, .slice (some ⟨g6, 0, none⟩) xs.length xs.length] 29)).cell? ⟨w6.heap.size, 0, none⟩ = some (.int .i64 t) := World.cell?_alloc_at _ _ _ _ rfl
  have m1 : (w6.alloc (Obj.cells #[Value.int IntKind.i64 t, .slice (some ⟨g6, 0, none⟩) xs.length xs.length] 29)).cell? ⟨w6.heap.size, 1, none⟩ = some (.slice (some ⟨g6, 0, none⟩) xs.length xs.length) := World.cell?_alloc_at _ _ _ _ rfl
  have BA : Below w6.heap.size w6 (w6.alloc (Obj.cells #[Value.int IntKind.i64 t, .slice (some ⟨g6, 0, none⟩) xs.length xs.length] 29)) := (Below.refl _ _).al _
  have k0 := al_c (Obj.cells #[Value.int IntKind.i64 t, .slice (some ⟨g6, 0, none⟩) xs.length xs.length] 29) k0
  have k1 := al_c (Obj.cells #[Value.int IntKind.i64 t, .slice (some ⟨g6, 0, none⟩) xs.length xs.length] 29) k1
  have k2 := al_c (Obj.cells #[Value.int IntKind.i64 t, .slice (some ⟨g6, 0, none⟩) xs.length xs.length] 29) k2
  have k3 := al_c (Obj.cells #[Value.int IntKind.i64 t, .slice (some ⟨g6, 0, none⟩) xs.length xs.length] 29) k3
  go_wp2_with fail
  generalize (w6.alloc (Obj.cells #[Value.int IntKind.i64 t, .slice (some ⟨g6, 0, none⟩) xs.length xs.length] 29)) = W6 at *
  obtain ⟨n6, Hn6⟩ : ∃ n6, Hid (w6.heap.size = n6) := ⟨_, rfl⟩
  rw [Hn6.out] at m0 m1 ⊢
  refine (to' ys t' _ _ (h2.below (BT6.tr BA)) hyn W6 (Below.refl _ _)).mono ?_; rintro e w7 ⟨g7, rfl, hr7, hB7, -⟩
  have k0 := keepc hB7 k0
  have k1 := keepc hB7 k1
  have k2 := keepc hB7 k2
  have k3 := keepc hB7 k3
  have m0 := keepc hB7 m0
  have m1 := keepc hB7 m1
  have BT7 := (BT6.tr BA).tr hB7
  have hr6 := (hr6.below BA).below hB7
  have n0 : (w7.alloc (Obj.cells #[Value.int IntKind.i64 t', .slice (some ⟨g7, 0, none⟩) ys.length ys.length] 29)).cell? ⟨w7.heap.size, 0, none⟩ = some (.int .i64 t') := World.cell?_alloc_at _ _ _ _ rfl
  have n1 : (w7.alloc (Obj.cells #[Value.int IntKind.i64 t', .slice (some ⟨g7, 0, none⟩) ys.length ys.length] 29)).cell? ⟨w7.heap.size, 1, none⟩ = some (.slice (some ⟨g7, 0, none⟩) ys.length ys.length) := World.cell?_alloc_at _ _ _ _ rfl
  have BB : Below w7.heap.size w7 (w7.alloc (Obj.cells #[Value.int IntKind.i64 t', .slice (some ⟨g7, 0, none⟩) ys.length ys.length] 29)) := (Below.refl _ _).al _
  have k0 := al_c (Obj.cells #[Value.int IntKind.i64 t', .slice (some ⟨g7, 0, none⟩) ys.length ys.length] 29) k0
  have k1 := al_c (Obj.cells #[Value.int IntKind.i64 t', .slice (some ⟨g7, 0, none⟩) ys.length ys.length] 29) k1
  have k2 := al_c (Obj.cells #[Value.int IntKind.i64 t', .slice (some ⟨g7, 0, none⟩) ys.length ys.length] 29) k2
  have k3 := al_c (Obj.cells #[Value.int IntKind.i64 t', .slice (some ⟨g7, 0, none⟩) ys.length ys.length] 29) k3
  have m0 := al_c (Obj.cells #[Value.int IntKind.i64 t', .slice (some ⟨g7, 0, none⟩) ys.length ys.length] 29) m0
  have m1 := al_c (Obj.cells #[Value.int IntKind.i64 t', .slice (some ⟨g7, 0, none⟩) ys.length ys.length] 29) m1
  go_wp2_with fail
  generalize (w7.alloc (Obj.cells #[Value.int IntKind.i64 t', .slice (some ⟨g7, 0, none⟩) ys.length ys.length] 29)) = W7 at *
  obtain ⟨n7, Hn7⟩ : ∃ n7, Hid (w7.heap.size = n7) := ⟨_, rfl⟩
  rw [Hn7.out] at n0 n1 ⊢
  have hr6 := hr6.below BB
  have hr7 := hr7.below BB
  have BT7 := BT7.tr BB
  refine (c_impl_SameFrame t t' xs ys _ _ _ hr6 hr7).mono ?_; rintro e w8 ⟨rfl, hb8⟩
  have k0 := keepc hb8 k0
  have k1 := keepc hb8 k1
  have k2 := keepc hb8 k2
  have k3 := keepc hb8 k3
  have m0 := keepc hb8 m0
  have m1 := keepc hb8 m1
  have n0 := keepc hb8 n0
  have n1 := keepc hb8 n1
  have hr6 := hr6.below hb8
  have hr7 := hr7.below hb8
  have BT8 := BT7.tr hb8
  have tt : (sameFrameB t xs t' ys != sameFrameB t xs t' ys) = false := by simp
  clear hB7 hB6 hB5 hB4 hB3 hc3 hc4 hc5 hf3 hf4 hf5 hb3 hb4 hb5 hb6 hr3 hr4 BT5 BT6 BT7 BA BB
  go_wp2_with fail
  go_region_held3 (fun w' => w'.cell? ⟨w.heap.size, 0, none⟩ = some (.int .i64 t) ∧ w'.cell? ⟨w.heap.size, 1, none⟩ = some (.slice a1 xs.length cap1) ∧ w'.cell? ⟨n6, 0, none⟩ = some (.int .i64 t) ∧ w'.cell? ⟨n6, 1, none⟩ = some (.slice (some ⟨g6, 0, none⟩) xs.length xs.length))
    (go_keep)
    (first
      | (go_at_call 17; refine (to' xs t _ _ ((h1.below BT8).below (by (repeat (first | (with_reducible assumption) | (with_reducible exact Below.refl _ _) | (with_reducible refine Below.setCell ?_ (by first | (simp; done) | (simp; omega)) _) | (with_reducible refine Below.al ?_ _) | (with_reducible refine Below.dr ?_) | (with_reducible refine Below.drN ?_ _) | (with_reducible refine Below.tr ?_ (by with_reducible assumption)))))) hxn w8 (by (repeat (first | (with_reducible assumption) | (with_reducible exact Below.refl _ _) | (with_reducible refine Below.setCell ?_ (by first | (simp; done) | (simp; omega)) _) | (with_reducible refine Below.al ?_ _) | (with_reducible refine Below.dr ?_) | (with_reducible refine Below.drN ?_ _) | (with_reducible refine Below.tr ?_ (by with_reducible assumption)))))).mono ?_; rintro e w9 ⟨g9, rfl, hr9, hB9, hb9⟩; have q0 := keepc hB9 k0; have q1 := keepc hB9 k1; have q2 := keepc hB9 m0; have q3 := keepc hB9 m1; have hr69 := hr6.below hB9)
      | (go_at_call 19; refine (c_laws_eqFrame xs t _ _ _ hr69 hr9).mono ?_; rintro e w10 ⟨rfl, hb10⟩; have hB10 : Below w8.heap.size w8 w10 := hB9.tr hb10; have q0 := keepc hB10 k0; have q1 := keepc hB10 k1; have q2 := keepc hB10 m0; have q3 := keepc hB10 m1))
  have k2 := keepc hB10 k2
  have k3 := keepc hB10 k3
  have n0 := keepc hB10 n0
  have n1 := keepc hB10 n1
  have hr7 := hr7.below hB10
  have BT10 := BT8.tr hB10
  clear k0 k1 m0 m1 q0 q1 q2 q3 hb10 hb9 hB9 hr69 hr9
  go_wp2_with fail
  go_region_held3 (fun w' => w'.cell? ⟨w.heap.size + 1, 0, none⟩ = some (.int .i64 t') ∧ w'.cell? ⟨w.heap.size + 1, 1, none⟩ = some (.slice a2 ys.length cap2) ∧ w'.cell? ⟨n7, 0, none⟩ = some (.int .i64 t') ∧ w'.cell? ⟨n7, 1, none⟩ = some (.slice (some ⟨g7, 0, none⟩) ys.length ys.length))
    (go_keep)
    (first
      | (go_at_call 17; refine (to' ys t' _ _ ((h2.below BT10).below (by (repeat (first | (with_reducible assumption) | (with_reducible exact Below.refl _ _) | (with_reducible refine Below.setCell ?_ (by first | (simp; done) | (simp; omega)) _) | (with_reducible refine Below.al ?_ _) | (with_reducible refine Below.dr ?_) | (with_reducible refine Below.drN ?_ _) | (with_reducible refine Below.tr ?_ (by with_reducible assumption)))))) hyn w10 (by (repeat (first | (with_reducible assumption) | (with_reducible exact Below.refl _ _) | (with_reducible refine Below.setCell ?_ (by first | (simp; done) | (simp; omega)) _) | (with_reducible refine Below.al ?_ _) | (with_reducible refine Below.dr ?_) | (with_reducible refine Below.drN ?_ _) | (with_reducible refine Below.tr ?_ (by with_reducible assumption)))))).mono ?_; rintro e w11 ⟨g11, rfl, hr11, hB11, hb11⟩; have q0 := keepc hB11 k2; have q1 := keepc hB11 k3; have q2 := keepc hB11 n0; have q3 := keepc hB11 n1; have hr711 := hr7.below hB11)
      | (go_at_call 19; refine (c_laws_eqFrame ys t' _ _ _ hr711 hr11).mono ?_; rintro e w12 ⟨rfl, hb12⟩; have hB12 : Below w10.heap.size w10 w12 := hB11.tr hb12; have q0 := keepc hB12 k2; have q1 := keepc hB12 k3; have q2 := keepc hB12 n0; have q3 := keepc hB12 n1))
  have BT12 := BT10.tr hB12
  go_wp2
  go_ret
  exact ⟨rfl, BT12⟩
theorem walk_big1 (xs : List Dot5) (t : Int) (u2 : Value) (ys : List Dot5) (t' : Int) (a1 : Option Addr) (cap1 : Nat) (w : World) (hl1 : (xs.length : Int) ≤ 9223372036854775807)
    (hx : (1048576 : Int) - xs.length < 0) :
    Calls Try.prog 3 #[.agg #[.int .i64 t, .slice a1 xs.length cap1], .agg #[.int .i64 t', u2]] w fun e w' => e = .returned (.bool true) ∧ Below w.heap.size w w' := by
  have HL := Lib.hid (szLeftD_neg hx)
  have t1 : szLeftD 1048576 xs.length < 0 := by rw [HL.out]; decide
  go_enter Try.func3, Try.ntmps3
  go_wp2_with fail
  refine (c_laws_szFrame _ _ _ _ _ _ hl1 (by omega)).mono ?_; rintro e w1 ⟨rfl, hb1⟩
  go_wp2
  go_ret
  exact ⟨rfl, by (repeat (first | (with_reducible assumption) | (with_reducible exact Below.refl _ _) | (with_reducible refine Below.setCell ?_ (by first | (simp; done) | (simp; omega)) _) | (with_reducible refine Below.al ?_ _) | (with_reducible refine Below.dr ?_) | (with_reducible refine Below.drN ?_ _) | (with_reducible refine Below.tr ?_ (by with_reducible assumption))))⟩
theorem walk_big2 (xs ys : List Dot5) (t t' : Int) (a1 a2 : Option Addr) (cap1 cap2 : Nat) (w : World) (hl2 : (ys.length : Int) ≤ 9223372036854775807)
    (hx : (xs.length : Int) ≤ 1048576) (hy : (1048576 : Int) - xs.length - ys.length < 0) :
    Calls Try.prog 3 #[.agg #[.int .i64 t, .slice a1 xs.length cap1], .agg #[.int .i64 t', .slice a2 ys.length cap2]] w fun e w' => e = .returned (.bool true) ∧ Below w.heap.size w w' := by
  have HL := Lib.hid (szLeftD_pos (left := 1048576) (len := xs.length) (by omega))
  have t1 : ¬ szLeftD 1048576 xs.length < 0 := by rw [HL.out]; omega
  have HL2 := Lib.hid (szLeftD_neg (left := szLeftD 1048576 xs.length) (len := ys.length) (by rw [HL.out]; omega))
  have t2 : szLeftD (szLeftD 1048576 xs.length) ys.length < 0 := by rw [HL2.out]; decide
  have hl1 : (xs.length : Int) ≤ 9223372036854775807 := by omega
  have hb3 : 0 ≤ szLeftD 1048576 xs.length ∧ szLeftD 1048576 xs.length ≤ 1048576 := by rw [HL.out]; omega
  go_enter Try.func3, Try.ntmps3
  go_wp2_with fail
  refine (c_laws_szFrame _ _ _ _ _ _ hl1 (by omega)).mono ?_; rintro e w1 ⟨rfl, hb1⟩; obtain ⟨hc1, hf1⟩ := bcell hb1; have hz1_0 : w.heap.size < w1.heap.size := Nat.lt_of_lt_of_le (by first | omega | (simp; done) | (simp; omega)) hb1.size; have hz1_1 : w.heap.size + 1 < w1.heap.size := Nat.lt_of_lt_of_le (by first | omega | (simp; done) | (simp; omega)) hb1.size
  go_wp2_with fail
  refine (c_laws_szFrame _ _ _ _ _ _ hl2 hb3).mono ?_; rintro e w2 ⟨rfl, hb2⟩
  go_wp2
  go_ret
  exact ⟨rfl, by (repeat (first | (with_reducible assumption) | (with_reducible exact Below.refl _ _) | (with_reducible refine Below.setCell ?_ (by first | (simp; done) | (simp; omega)) _) | (with_reducible refine Below.al ?_ _) | (with_reducible refine Below.dr ?_) | (with_reducible refine Below.drN ?_ _) | (with_reducible refine Below.tr ?_ (by with_reducible assumption))))⟩
theorem walk (v0 v1 : Value) (w : World) (p0 : Arg_Frame w v0) (p1 : Arg_Frame w v1) : Calls Try.prog 3 #[v0, v1] w fun e w' => e = .returned (.bool true) ∧ Below w.heap.size w w' := by
  obtain ⟨u1, xs, t, rfl, h1⟩ := p0
  obtain ⟨u2, ys, t', rfl, h2⟩ := p1
  have h1' := h1
  have h2' := h2
  obtain ⟨a1, cap1, rfl, hl1, _⟩ := h1'
  obtain ⟨a2, cap2, rfl, hl2, _⟩ := h2'
  by_cases hx : (1048576 : Int) - xs.length < 0
  · exact walk_big1 xs t _ ys t' a1 cap1 w (by omega) hx
  · by_cases hy : (1048576 : Int) - xs.length - ys.length < 0
    · exact walk_big2 xs ys t t' a1 a2 cap1 cap2 w (by omega) (by omega) hy
    · exact walk_small xs ys t t' a1 a2 cap1 cap2 w h1 h2 (by omega) (by omega)
theorem own : ownKnob Try.prog.godebug = none := by kernel_rfl
theorem laidOut : laidOutB Try.prog = true := by kernel_rfl
set_option maxRecDepth 100000 in
theorem lifted (os : Os) (started : os.Started) (H : Type) (enc : TypeId × Value → H) :
    ReturnsInHanded {} Try.checked os 3 .any (Rows.fnExactSameFrameSpec.pre6 enc Try.prog Try.f3 Rows.fnExactSameFrameRow.domain false) (Rows.fnExactSameFrameSpec.post enc Try.prog Try.f3 false true false false) := by
  refine returnsInHanded_of_change (C := Try.checked) own started (by kernel_rfl) Try.func3
    (ChangeSpec.witness6 (enc := enc) (C := Try.checked) false ⟨#[], #[.agg #[.int .i64 0, .slice none 0 0], .agg #[.int .i64 0, .slice none 0 0]], []⟩ 8 (by kernel_rfl) (by kernel_rfl) (by kernel_rfl) (by kernel_rfl)) ?_
  intro W base args ds gs before hval0 hW hcnd _
  have hval : ∀ (j : Nat) t v, Try.f3.params[j]? = some t → args[j]? = some v → Value.okWide Try.prog W .any base t v := hval0
  have hW' := hW
  obtain ⟨p, q, hA0, hV, rfl, hfz, hnd⟩ := hW
  have hA : DataW.TrodAll enc Try.prog W 0 (fun _ => true) true Try.f3.params.toList args.toList ds p := hA0
  rw [Try.params3] at hA hval
  obtain ⟨v0, vs0, d0, ds0, p0, q0, hargs, rfl, rfl, h0, r0⟩ := trodAll_cons hA
  obtain ⟨v1, vs1, d1, ds1, p1, q1, rfl, rfl, rfl, h1, r1⟩ := trodAll_cons r0
  obtain ⟨rfl, rfl, rfl⟩ := trodAll_nil r1
  obtain rfl : args = #[v0, v1] := by cases args; simp_all
  obtain ⟨rfl, rfl⟩ := trodVars_none hV
  have k0 := h0
  have lt0 : ∀ x ∈ p0, x.block < W.heap.size := by obtain ⟨m, hm⟩ := k0; exact DataW.trod_lt m _ _ _ hm
  have a0 := open_Frame (hval 0 24 v0 rfl rfl) h0
  have k1 := h1
  have lt1 : ∀ x ∈ p1, x.block < W.heap.size := by obtain ⟨m, hm⟩ := k1; exact DataW.trod_lt m _ _ _ hm
  have a1 := open_Frame (hval 1 24 v1 rfl rfl) h1
  clear hA0 hval0
  refine (walk v0 v1 W a0 a1).mono fun e W' ⟨he, bel⟩ => ?_
  subst he
  exact ⟨_, rfl, _, _, _, [], _, [], hW', trodAll_mk1 (shut_bool Try.underlying4 _), (trodAll_cons_mk (Below.trod laidOut (by kernel_rfl) (of_decide_eq_true (by kernel_rfl)) k0 bel lt0) (trodAll_cons_mk (Below.trod laidOut (by kernel_rfl) (of_decide_eq_true (by kernel_rfl)) k1 bel lt1) trodAll_mk0)), rfl, bel.frame _, fun h => by cases h⟩
theorem over : Rows.fnExactSameFrameRow.holds Try.pinned (OpenSpec.ofChange Rows.fnExactSameFrameSpec) :=
  OpenClaim.holds_of_wide 3 Try.f3 rfl rfl rfl rfl rfl rfl rfl ⟨rfl, rfl, rfl, rfl, rfl⟩ rfl rfl rfl rfl rfl (by kernel_rfl) Try.func3 (by kernel_rfl)
    (of_decide_eq_true (by kernel_rfl)) (by unfold Func.isWrapper; first | (rw [if_pos (by decide +kernel)]; kernel_rfl) | (rw [if_neg (by decide +kernel)]; exact ⟨rfl, rfl⟩))
    (fun os started H enc _ => lifted os started H enc)
theorem proved : Rows.FnExactSameFrameSaid := over
end fnExactSameFrame
end Go.Proofs.Ytecdmnncfloagaa
