/- The law FnExactFrameAt returns true for all arguments. No condition. -/
import Derived.Test.YtddfdppoclnpcaaFrO
import Derived.Test.YtddfdppoclnpcaaLawD
import Derived.Test.YtddfdppoclnpcaaDesk
import Derived.Deep.RegionHeld3
namespace Go.Proofs.Ytddfdppoclnpcaa.fnExactFrameAt
open Go.ChangeShapes Go.WideShapes Go.ChangeAt Go.RowKit
set_option linter.unusedVariables false
/-- two cells that may be written -/
def Box2 (w : World) (g : Nat) : Prop := (w.cell? ⟨g, 0, none⟩ = some (.int .i64 0) ∧ w.frozen? ⟨g, 0, none⟩ = false) ∧ (w.cell? ⟨g, 1, none⟩ = some (.slice none 0 0) ∧ w.frozen? ⟨g, 1, none⟩ = false)
theorem Box2.below {a b : World} {g : Nat} (h : Box2 a g) (hb : Below a.heap.size a b) : Box2 b g := ⟨⟨keepc hb h.1.1, frozenc hb h.1.1 h.1.2⟩, ⟨keepc hb h.2.1, frozenc hb h.2.1 h.2.2⟩⟩
theorem Box2.lt {a : World} {g : Nat} (h : Box2 a g) : g < a.heap.size := World.block_lt_of_cell? _ _ h.1.1
theorem box2_new (w : World) : Box2 (w.alloc (Obj.cells #[Value.int IntKind.i64 0, Value.slice none 0 0] 62)) w.heap.size := ⟨⟨World.cell?_alloc_at _ _ _ _ rfl, World.frozen?_alloc_at _ _ _ _ rfl⟩, ⟨World.cell?_alloc_at _ _ _ _ rfl, World.frozen?_alloc_at _ _ _ _ rfl⟩⟩
theorem box2_drew {w w2 : World} (hb : Below (w.alloc (Obj.cells #[Value.int IntKind.i64 0, Value.slice none 0 0] 62)).drew.heap.size (w.alloc (Obj.cells #[Value.int IntKind.i64 0, Value.slice none 0 0] 62)).drew w2) : Box2 w2 w.heap.size := Box2.below (b := w2) (box2_new w) (below_drew hb)
theorem box2_plain {w w2 : World} (hb : Below (w.alloc (Obj.cells #[Value.int IntKind.i64 0, Value.slice none 0 0] 62)).heap.size (w.alloc (Obj.cells #[Value.int IntKind.i64 0, Value.slice none 0 0] 62)) w2) : Box2 w2 w.heap.size := (box2_new w).below hb
theorem own_set {α : Type} {E : TypeId} {sz lo hi g j : Nat} {row : α → List Value} {w : World} {v : Value} {xs : List α} (h : OwnRow E sz row lo hi w v xs) (hg : g < lo) (u : Value) : OwnRow E sz row lo hi (w.setCell ⟨g, j, none⟩ u) v xs :=
  ⟨owns_block h.1 fun k hk => heap_setCell_other w ⟨g, j, none⟩ k u (fun e => by have h1 := (World.ownsRow.lt h.1 k hk).1; have h2 : k = g := e; omega), h.2⟩
set_option maxHeartbeats 16000000 in
set_option maxRecDepth 100000 in
theorem walk_small (p : List Int) (B D x t : Int) (a1 : Option Addr) (cap1 : Nat) (w : World) (hr : RdI w (.slice a1 p.length cap1) p) (hn : p.length ≤ 1048576) :
    Calls Try.prog 7 #[.slice a1 p.length cap1, .agg #[.int .i64 B, .int .i64 D], .int .i64 x, .int .i64 t] w fun e w' => e = .returned (.bool true) ∧ Below w.heap.size w w' := by
  obtain ⟨W0, hW0, k0, k1, B0⟩ := oneState w 47 B D
  have HR : Hid (RdI W0 (.slice a1 p.length cap1) p) := Lib.hid (hr.below B0)
  obtain ⟨T, HT⟩ : ∃ T, Hid (faT p B D x t = T) := ⟨_, Lib.hid rfl⟩
  have hL16 := faL_len p B D x t
  obtain ⟨L, HL⟩ : ∃ L, Hid (faL p B D x t = L) := ⟨_, Lib.hid rfl⟩
  rw [HL.out] at hL16
  obtain ⟨C, HC⟩ : ∃ C, Hid (frCode p B D x t = C) := ⟨_, Lib.hid rfl⟩
  have HS : Hid (∀ (u : Value) (w7 : World), RdI w7 u p → Calls Try.prog 34 #[u, .agg #[.int .i64 B, .int .i64 D], .int .i64 x, .int .i64 t] w7 fun e w' => ∃ a cap, e = .returned (.tuple #[.agg #[.int .i64 T, .slice a L.length cap], .int .i64 C]) ∧ OwnD w7.heap.size w'.heap.size w' (.slice a L.length cap) L ∧ Below w7.heap.size w7 w') := fun u w7 h7 => by
    have h := c_spec_FrameAt p B D x t u w7 h7
    rw [HT.out, HL.out, HC.out] at h
    exact h
  have HI : Hid (∀ (u : Value) (w7 : World), RdI w7 u p → Calls Try.prog 35 #[u, .agg #[.int .i64 B, .int .i64 D], .int .i64 x, .int .i64 t] w7 fun e w' => ∃ a cap, e = .returned (.tuple #[.agg #[.int .i64 T, .slice a L.length cap], .int .i64 C]) ∧ OwnD w7.heap.size w'.heap.size w' (.slice a L.length cap) L ∧ Below w7.heap.size w7 w') := fun u w7 h7 => by
    have h := c_impl_FrameAt p B D x t u w7 h7
    rw [HT.out, HL.out, HC.out] at h
    exact h
  have tc : (C != C) = false := by simp
  have hz0 : w.heap.size < W0.heap.size := World.block_lt_of_cell? _ _ k0
  have HRW := Lib.hid hr
  clear hr HT HL HC
  go_enter Try.func7, Try.ntmps7
  go_wp2_with fail
  rw [← hW0]
  clear hW0
  have hRaa : RdI W0.drew (.slice a1 p.length cap1) p := HR.out
  have hRba : RdI (W0.alloc (Obj.cells #[Value.int IntKind.i64 0, Value.slice none 0 0] 62)).drew (.slice a1 p.length cap1) p := RdI.below (a := W0) HR.out (((Below.refl _ _).al _).dr)
  have ne1a : ¬ W0.heap.size = w.heap.size := by omega
  have ne2a : ¬ w.heap.size = W0.heap.size := by omega
  go_region_held3 (fun w' => w'.cell? ⟨w.heap.size, 0, none⟩ = some (.int .i64 B) ∧ w'.cell? ⟨w.heap.size, 1, none⟩ = some (.int .i64 D))
    (go_keep)
    (first
      | ((go_at_call 12; refine (c_laws_toInt64S p _ _ (by first | exact hRaa | exact hRba) hn).mono ?_; rintro e w2a ⟨rfl, ho2a, hb2a⟩; (first | (have hb2a' := below_new hb2a; have X2 := box2_drew hb2a) | (have hb2a' := below_drew hb2a)); have j0 := keepc hb2a' k0; have j1 := keepc hb2a' k1; have hr2a := ho2a.rd; (try rw [show (W0.alloc (Obj.cells #[Value.int IntKind.i64 0, Value.slice none 0 0] 62)).drew.heap.size = W0.heap.size + 1 from World.size_alloc _ _] at hr2a); have hz2a : W0.heap.size ≤ w2a.heap.size := hb2a'.size; have ne3a : ¬ w2a.heap.size = w.heap.size := (by omega); have ne4a : ¬ w.heap.size = w2a.heap.size := (by omega)))
      | ((go_at_call 29; refine (c_laws_toTiming B D _).mono ?_; rintro e w3a ⟨rfl, hb3a⟩; (first | (have hb3a' : Below w2a.heap.size w2a w3a := hb3a; (try have X3 := X2.below hb3a')) | (have X3 := box2_plain hb3a; have hb3a' : Below w2a.heap.size w2a w3a := ((Below.refl _ _).al _).tr hb3a)); have l0 := keepc hb3a' j0; have l1 := keepc hb3a' j1; have hr3a := hr2a.below hb3a'; have hz3a : w2a.heap.size ≤ w3a.heap.size := hb3a'.size; (try have hX3 := X3.lt); have ne5a : ¬ w3a.heap.size = w.heap.size := (by omega); have ne6a : ¬ w.heap.size = w3a.heap.size := (by omega)))
      | ((go_at_call 34; refine (HS.out _ _ (by first | exact hr3a | exact hr3a.below ((Below.refl _ _).al _))).mono ?_; rintro e w4a ⟨asa, csa, rfl, ho4a, hb4a⟩; (first | (have hb4a' : Below w3a.heap.size w3a w4a := hb4a; (try have X4 := X3.below hb4a'); (have hooa : OwnD w3a.heap.size w4a.heap.size w4a _ L := ho4a)) | (have X4 := box2_plain hb4a; have hb4a' : Below w3a.heap.size w3a w4a := ((Below.refl _ _).al _).tr hb4a; have hooa : OwnD (w3a.heap.size + 1) w4a.heap.size w4a _ L := ho4a.wide (by rw [World.size_alloc]; exact Nat.le_refl _) (Nat.le_refl _))); have m0 := keepc hb4a' l0; have m1 := keepc hb4a' l1; have hz4a : w3a.heap.size ≤ w4a.heap.size := hb4a'.size; have ne7a : ¬ w4a.heap.size = w.heap.size := (by omega); have ne8a : ¬ w.heap.size = w4a.heap.size := (by omega); (try (have x0 := X4.1.1; have x1 := X4.2.1; have y0 := X4.1.2; have y1 := X4.2.2)))))
  all_goals (
     have BWa : Below W0.heap.size W0 w4a := (hb2a'.tr hb3a').tr hb4a'
     first
     | (
       obtain ⟨W9a, hW9a⟩ : ∃ W9, W9 = w4a.alloc (Obj.cells #[.int .i64 T, .slice asa L.length csa] 62) := ⟨_, rfl⟩
       have c0a : W9a.cell? ⟨w4a.heap.size, 0, none⟩ = some (.int .i64 T) := by rw [hW9a]; exact World.cell?_alloc_at _ _ _ _ rfl
       have c1a : W9a.cell? ⟨w4a.heap.size, 1, none⟩ = some (.slice asa L.length csa) := by rw [hW9a]; exact World.cell?_alloc_at _ _ _ _ rfl
       have B9a : Below W0.heap.size W0 W9a := by rw [hW9a]; exact BWa.al _
       have hrsa : RdRow 5 rowD W9a (.slice asa L.length csa) L := by rw [hW9a]; exact (hooa.al _).rd rowD_len
       have hgna : W0.heap.size ≤ w4a.heap.size := by omega
       rw [← hW9a]
       clear hW9a
       obtain ⟨Ga, hGa⟩ : ∃ G, w4a.heap.size = G := ⟨_, rfl⟩
       rw [hGa] at c0a c1a hgna ⊢)
     | (
       obtain ⟨X0', X1', -, hga⟩ := set2 w4a w3a.heap.size (.int .i64 T) (.slice asa L.length csa) _ _ x0 x1
       obtain ⟨W9a, hW9a⟩ : ∃ W9, W9 = ((w4a.setCell ⟨w3a.heap.size, 0, none⟩ (.int .i64 T)).setCell ⟨w3a.heap.size, 1, none⟩ (.slice asa L.length csa)) := ⟨_, rfl⟩
       have c0a : W9a.cell? ⟨w3a.heap.size, 0, none⟩ = some (.int .i64 T) := by rw [hW9a]; exact X0'
       have c1a : W9a.cell? ⟨w3a.heap.size, 1, none⟩ = some (.slice asa L.length csa) := by rw [hW9a]; exact X1'
       have B9a : Below W0.heap.size W0 W9a := by rw [hW9a]; exact (BWa.setCell (p := ⟨w3a.heap.size, 0, none⟩) (show W0.heap.size ≤ w3a.heap.size by omega) _).setCell (p := ⟨w3a.heap.size, 1, none⟩) (show W0.heap.size ≤ w3a.heap.size by omega) _
       have hrsa : RdRow 5 rowD W9a (.slice asa L.length csa) L := by rw [hW9a]; exact (own_set (own_set hooa (by omega) _) (by omega) _).rd rowD_len
       have hgna : W0.heap.size ≤ w3a.heap.size := by omega
       rw [← hW9a]
       clear hW9a x0 x1 X0' X1'
       obtain ⟨Ga, hGa⟩ : ∃ G, w3a.heap.size = G := ⟨_, rfl⟩
       rw [hGa] at c0a c1a hgna ⊢)
     | (
       obtain ⟨X0', X1', -, hga⟩ := set2 w4a w2a.heap.size (.int .i64 T) (.slice asa L.length csa) _ _ x0 x1
       obtain ⟨W9a, hW9a⟩ : ∃ W9, W9 = ((w4a.setCell ⟨w2a.heap.size, 0, none⟩ (.int .i64 T)).setCell ⟨w2a.heap.size, 1, none⟩ (.slice asa L.length csa)) := ⟨_, rfl⟩
       have c0a : W9a.cell? ⟨w2a.heap.size, 0, none⟩ = some (.int .i64 T) := by rw [hW9a]; exact X0'
       have c1a : W9a.cell? ⟨w2a.heap.size, 1, none⟩ = some (.slice asa L.length csa) := by rw [hW9a]; exact X1'
       have B9a : Below W0.heap.size W0 W9a := by rw [hW9a]; exact (BWa.setCell (p := ⟨w2a.heap.size, 0, none⟩) (show W0.heap.size ≤ w2a.heap.size by omega) _).setCell (p := ⟨w2a.heap.size, 1, none⟩) (show W0.heap.size ≤ w2a.heap.size by omega) _
       have hrsa : RdRow 5 rowD W9a (.slice asa L.length csa) L := by rw [hW9a]; exact (own_set (own_set hooa (by omega) _) (by omega) _).rd rowD_len
       have hgna : W0.heap.size ≤ w2a.heap.size := by omega
       rw [← hW9a]
       clear hW9a x0 x1 X0' X1'
       obtain ⟨Ga, hGa⟩ : ∃ G, w2a.heap.size = G := ⟨_, rfl⟩
       rw [hGa] at c0a c1a hgna ⊢)
     | (
       obtain ⟨X0', X1', -, hga⟩ := set2 w4a W0.heap.size (.int .i64 T) (.slice asa L.length csa) _ _ x0 x1
       obtain ⟨W9a, hW9a⟩ : ∃ W9, W9 = ((w4a.setCell ⟨W0.heap.size, 0, none⟩ (.int .i64 T)).setCell ⟨W0.heap.size, 1, none⟩ (.slice asa L.length csa)) := ⟨_, rfl⟩
       have c0a : W9a.cell? ⟨W0.heap.size, 0, none⟩ = some (.int .i64 T) := by rw [hW9a]; exact X0'
       have c1a : W9a.cell? ⟨W0.heap.size, 1, none⟩ = some (.slice asa L.length csa) := by rw [hW9a]; exact X1'
       have B9a : Below W0.heap.size W0 W9a := by rw [hW9a]; exact (BWa.setCell (p := ⟨W0.heap.size, 0, none⟩) (show W0.heap.size ≤ W0.heap.size by omega) _).setCell (p := ⟨W0.heap.size, 1, none⟩) (show W0.heap.size ≤ W0.heap.size by omega) _
       have hrsa : RdRow 5 rowD W9a (.slice asa L.length csa) L := by rw [hW9a]; exact (own_set (own_set hooa (by omega) _) (by omega) _).rd rowD_len
       have hgna : W0.heap.size ≤ W0.heap.size := by omega
       rw [← hW9a]
       clear hW9a x0 x1 X0' X1'
       obtain ⟨Ga, hGa⟩ : ∃ G, W0.heap.size = G := ⟨_, rfl⟩
       rw [hGa] at c0a c1a hgna ⊢))
  all_goals (
    have hS9 := B9a.size
    have B9 : Below w.heap.size w W9a := B0.tr B9a
    have n0a := keepc B9a k0
    have n1a := keepc B9a k1
    have HS9 := Lib.hid hrsa
    have hGz : Ga < W9a.heap.size := World.block_lt_of_cell? _ _ c0a
    have hwz : w.heap.size < W9a.heap.size := World.block_lt_of_cell? _ _ n0a
    have n0 := n0a
    have n1 := n1a
    clear hrsa hooa ho4a ho2a hr2a hr3a j0 j1 l0 l1 m0 m1
    go_wp2_with fail
    refine (c_laws_toInt64S p _ _ (HRW.out.below B9) hn).mono ?_; rintro e w10 ⟨rfl, ho10, Q10⟩
    have hs10 := Q10.size
    have c0 := keepc Q10 c0a
    have c1 := keepc Q10 c1a
    have n0 := keepc Q10 n0a
    have n1 := keepc Q10 n1a
    go_wp2_with fail
    refine (c_laws_toTiming B D _).mono ?_; rintro e w11 ⟨rfl, hb11⟩
    have hs11 := hb11.size
    have Q11 := Q10.tr hb11
    go_wp2_with fail
    refine (HI.out _ _ (ho10.rd.below hb11)).mono ?_; rintro e w12 ⟨ag, cg, rfl, hog, hb12⟩
    have hs12 := hb12.size
    have Q12 := Q11.tr hb12
    have hgz : Ga < w12.heap.size := by omega
    have hgzw : w.heap.size < w12.heap.size := by omega
    have hg1 : ¬ w12.heap.size = Ga := by omega
    have hg2 : ¬ Ga = w12.heap.size := by omega
    have hg3 : ¬ w12.heap.size = w.heap.size := by omega
    have c0 := keepc Q12 c0a
    have c1 := keepc Q12 c1a
    have n0 := keepc Q12 n0a
    have n1 := keepc Q12 n1a
    go_wp2_with fail
    obtain ⟨W13, hW13⟩ : ∃ W13, W13 = w12.alloc (Obj.cells #[.int .i64 T, .slice ag L.length cg] 62) := ⟨_, rfl⟩
    have hb13 : Below w12.heap.size w12 W13 := by rw [hW13]; exact (Below.refl _ _).al _
    have g0 : W13.cell? ⟨w12.heap.size, 0, none⟩ = some (.int .i64 T) := by rw [hW13]; exact World.cell?_alloc_at _ _ _ _ rfl
    have g1 : W13.cell? ⟨w12.heap.size, 1, none⟩ = some (.slice ag L.length cg) := by rw [hW13]; exact World.cell?_alloc_at _ _ _ _ rfl
    have hs13 : w12.heap.size < W13.heap.size := World.block_lt_of_cell? _ _ g0
    have Q13 := Q12.tr hb13
    have og13 := hog.below hb13
    have oi13 := ((ho10.ir.below hb11).below hb12).below hb13
    rw [← hW13]
    clear hW13
    refine (c_laws_eqFrame L T _ _ _ (og13.rd rowD_len) (HS9.out.below Q13)).mono ?_; rintro e w14 ⟨rfl, hb14⟩
    have hs14 := hb14.size
    have Q14 := Q13.tr hb14
    have g0 := keepc hb14 g0
    have g1 := keepc hb14 g1
    go_wp2_with fail
    refine (c_laws_toInt64S p _ _ (HRW.out.below (B9.tr Q14)) hn).mono ?_; rintro e w15 ⟨rfl, ho15, hb15⟩
    have hs15 := hb15.size
    have Q15 := Q14.tr hb15
    go_wp2_with fail
    refine (c_laws_eqInt64S p p _ _ _ ((oi13.below hb14).below hb15).rd ho15.rd).mono ?_; rintro e w16 ⟨rfl, hb16⟩
    have hs16 := hb16.size
    have Q16 := Q15.tr hb16
    rw [show decide (p = p) = true by simp]
    go_wp2_with fail
    refine (m_Int64S W9a.heap.size w10.heap.size p 1 _ _ (((oi13.below hb14).below hb15).below hb16) (by omega) (by omega)).mono ?_; rintro e w17 ⟨rfl, hm17, hu17⟩
    have hs17 := hu17.size
    have Q17 : Below W9a.heap.size W9a w17 := Q16.trans (hu17.below (by omega) (by omega))
    have g0 := (hu17.cell _ _ (Or.inr (by omega)) (by omega)).trans (keepc hb16 (keepc hb15 g0))
    have g1 := (hu17.cell _ _ (Or.inr (by omega)) (by omega)).trans (keepc hb16 (keepc hb15 g1))
    have og17 := (((og13.below hb14).below hb15).below hb16).upd hu17 (by omega)
    have c0 := keepc Q17 c0a
    have c1 := keepc Q17 c1a
    have n0 := keepc Q17 n0a
    have n1 := keepc Q17 n1a
    have tk : ¬ ((1 + (p.length : Int)) < 0) := by omega
    go_wp2_with fail
    refine (c_laws_eqFrame L T _ _ _ (og17.rd rowD_len) (HS9.out.below Q17)).mono ?_; rintro e w18 ⟨rfl, hb18⟩
    have hs18 := hb18.size
    have Q18 := Q17.tr hb18
    have g0 := keepc hb18 g0
    have g1 := keepc hb18 g1
    go_wp2_with fail
    refine (c_laws_markFrame w11.heap.size w12.heap.size T L 1 _ _ (og17.below hb18) (by omega) (by omega) (by omega)).mono ?_; rintro e w19 ⟨rfl, hm19, hu19⟩
    have hs19 := hu19.size
    have Q19 : Below W9a.heap.size W9a w19 := Q18.trans (hu19.below (by omega) (by omega))
    have g0 := (hu19.cell _ _ (Or.inr (by omega)) (by omega)).trans g0
    have g1 := (hu19.cell _ _ (Or.inr (by omega)) (by omega)).trans g1
    have hm19r := hm19.rd rowD_len
    go_wp2_with fail
    refine (c_laws_heldFrame T L.length 1 _ _ hm19r (by omega) (by omega)).mono ?_; rintro e w20 ⟨rfl, hb20⟩
    have hs20 := hb20.size
    have Q20 := Q19.tr hb20
    have g0 := keepc hb20 g0
    have g1 := keepc hb20 g1
    have HM20 := Lib.hid (hm19r.below hb20)
    have th : ¬ ((1 + 5 * (L.length : Int)) < 0) := by omega
    have te : ((1 + 5 * (L.length : Int)) != (1 + 5 * (L.length : Int))) = false := by simp
    have hR20 : RdI w20 (.slice a1 p.length cap1) p := HRW.out.below (B9.tr Q20)
    have c0 := keepc Q20 c0a
    have c1 := keepc Q20 c1a
    have n0 := keepc Q20 n0a
    have n1 := keepc Q20 n1a
    clear hm19r hm19 og17 og13 oi13 hm17 ho10 ho15 hog
    go_wp2_with fail
    have hRab : RdI w20.drew (.slice a1 p.length cap1) p := hR20
    have hRbb : RdI (w20.alloc (Obj.cells #[Value.int IntKind.i64 0, Value.slice none 0 0] 62)).drew (.slice a1 p.length cap1) p := RdI.below (a := w20) hR20 (((Below.refl _ _).al _).dr)
    have ne1b : ¬ w20.heap.size = w.heap.size := by omega
    have ne2b : ¬ w.heap.size = w20.heap.size := by omega
    go_region_held3 (fun w' => w'.cell? ⟨w.heap.size, 0, none⟩ = some (.int .i64 B) ∧ w'.cell? ⟨w.heap.size, 1, none⟩ = some (.int .i64 D))
      (go_keep)
      (first
        | ((go_at_call 12; refine (c_laws_toInt64S p _ _ (by first | exact hRab | exact hRbb) hn).mono ?_; rintro e w2b ⟨rfl, ho2b, hb2b⟩; (first | (have hb2b' := below_new hb2b; have X2 := box2_drew hb2b) | (have hb2b' := below_drew hb2b)); have j0 := keepc hb2b' n0; have j1 := keepc hb2b' n1; have hr2b := ho2b.rd; (try rw [show (w20.alloc (Obj.cells #[Value.int IntKind.i64 0, Value.slice none 0 0] 62)).drew.heap.size = w20.heap.size + 1 from World.size_alloc _ _] at hr2b); have hz2b : w20.heap.size ≤ w2b.heap.size := hb2b'.size; have ne3b : ¬ w2b.heap.size = w.heap.size := (by omega); have ne4b : ¬ w.heap.size = w2b.heap.size := (by omega)))
        | ((go_at_call 29; refine (c_laws_toTiming B D _).mono ?_; rintro e w3b ⟨rfl, hb3b⟩; (first | (have hb3b' : Below w2b.heap.size w2b w3b := hb3b; (try have X3 := X2.below hb3b')) | (have X3 := box2_plain hb3b; have hb3b' : Below w2b.heap.size w2b w3b := ((Below.refl _ _).al _).tr hb3b)); have l0 := keepc hb3b' j0; have l1 := keepc hb3b' j1; have hr3b := hr2b.below hb3b'; have hz3b : w2b.heap.size ≤ w3b.heap.size := hb3b'.size; (try have hX3 := X3.lt); have ne5b : ¬ w3b.heap.size = w.heap.size := (by omega); have ne6b : ¬ w.heap.size = w3b.heap.size := (by omega)))
        | ((go_at_call 35; refine (HI.out _ _ (by first | exact hr3b | exact hr3b.below ((Below.refl _ _).al _))).mono ?_; rintro e w4b ⟨asb, csb, rfl, ho4b, hb4b⟩; (first | (have hb4b' : Below w3b.heap.size w3b w4b := hb4b; (try have X4 := X3.below hb4b'); (have hoob : OwnD w3b.heap.size w4b.heap.size w4b _ L := ho4b)) | (have X4 := box2_plain hb4b; have hb4b' : Below w3b.heap.size w3b w4b := ((Below.refl _ _).al _).tr hb4b; have hoob : OwnD (w3b.heap.size + 1) w4b.heap.size w4b _ L := ho4b.wide (by rw [World.size_alloc]; exact Nat.le_refl _) (Nat.le_refl _))); have m0 := keepc hb4b' l0; have m1 := keepc hb4b' l1; have hz4b : w3b.heap.size ≤ w4b.heap.size := hb4b'.size; have ne7b : ¬ w4b.heap.size = w.heap.size := (by omega); have ne8b : ¬ w.heap.size = w4b.heap.size := (by omega); (try (have x0 := X4.1.1; have x1 := X4.2.1; have y0 := X4.1.2; have y1 := X4.2.2)))))
    all_goals (
       have BWb : Below w20.heap.size w20 w4b := (hb2b'.tr hb3b').tr hb4b'
       first
       | (
         obtain ⟨W9b, hW9b⟩ : ∃ W9, W9 = w4b.alloc (Obj.cells #[.int .i64 T, .slice asb L.length csb] 62) := ⟨_, rfl⟩
         have c0b : W9b.cell? ⟨w4b.heap.size, 0, none⟩ = some (.int .i64 T) := by rw [hW9b]; exact World.cell?_alloc_at _ _ _ _ rfl
         have c1b : W9b.cell? ⟨w4b.heap.size, 1, none⟩ = some (.slice asb L.length csb) := by rw [hW9b]; exact World.cell?_alloc_at _ _ _ _ rfl
         have B9b : Below w20.heap.size w20 W9b := by rw [hW9b]; exact BWb.al _
         have hrsb : RdRow 5 rowD W9b (.slice asb L.length csb) L := by rw [hW9b]; exact (hoob.al _).rd rowD_len
         have hgnb : w20.heap.size ≤ w4b.heap.size := by omega
         rw [← hW9b]
         clear hW9b
         obtain ⟨Gb, hGb⟩ : ∃ G, w4b.heap.size = G := ⟨_, rfl⟩
         rw [hGb] at c0b c1b hgnb ⊢)
       | (
         obtain ⟨X0', X1', -, hgb⟩ := set2 w4b w3b.heap.size (.int .i64 T) (.slice asb L.length csb) _ _ x0 x1
         obtain ⟨W9b, hW9b⟩ : ∃ W9, W9 = ((w4b.setCell ⟨w3b.heap.size, 0, none⟩ (.int .i64 T)).setCell ⟨w3b.heap.size, 1, none⟩ (.slice asb L.length csb)) := ⟨_, rfl⟩
         have c0b : W9b.cell? ⟨w3b.heap.size, 0, none⟩ = some (.int .i64 T) := by rw [hW9b]; exact X0'
         have c1b : W9b.cell? ⟨w3b.heap.size, 1, none⟩ = some (.slice asb L.length csb) := by rw [hW9b]; exact X1'
         have B9b : Below w20.heap.size w20 W9b := by rw [hW9b]; exact (BWb.setCell (p := ⟨w3b.heap.size, 0, none⟩) (show w20.heap.size ≤ w3b.heap.size by omega) _).setCell (p := ⟨w3b.heap.size, 1, none⟩) (show w20.heap.size ≤ w3b.heap.size by omega) _
         have hrsb : RdRow 5 rowD W9b (.slice asb L.length csb) L := by rw [hW9b]; exact (own_set (own_set hoob (by omega) _) (by omega) _).rd rowD_len
         have hgnb : w20.heap.size ≤ w3b.heap.size := by omega
         rw [← hW9b]
         clear hW9b x0 x1 X0' X1'
         obtain ⟨Gb, hGb⟩ : ∃ G, w3b.heap.size = G := ⟨_, rfl⟩
         rw [hGb] at c0b c1b hgnb ⊢)
       | (
         obtain ⟨X0', X1', -, hgb⟩ := set2 w4b w2b.heap.size (.int .i64 T) (.slice asb L.length csb) _ _ x0 x1
         obtain ⟨W9b, hW9b⟩ : ∃ W9, W9 = ((w4b.setCell ⟨w2b.heap.size, 0, none⟩ (.int .i64 T)).setCell ⟨w2b.heap.size, 1, none⟩ (.slice asb L.length csb)) := ⟨_, rfl⟩
         have c0b : W9b.cell? ⟨w2b.heap.size, 0, none⟩ = some (.int .i64 T) := by rw [hW9b]; exact X0'
         have c1b : W9b.cell? ⟨w2b.heap.size, 1, none⟩ = some (.slice asb L.length csb) := by rw [hW9b]; exact X1'
         have B9b : Below w20.heap.size w20 W9b := by rw [hW9b]; exact (BWb.setCell (p := ⟨w2b.heap.size, 0, none⟩) (show w20.heap.size ≤ w2b.heap.size by omega) _).setCell (p := ⟨w2b.heap.size, 1, none⟩) (show w20.heap.size ≤ w2b.heap.size by omega) _
         have hrsb : RdRow 5 rowD W9b (.slice asb L.length csb) L := by rw [hW9b]; exact (own_set (own_set hoob (by omega) _) (by omega) _).rd rowD_len
         have hgnb : w20.heap.size ≤ w2b.heap.size := by omega
         rw [← hW9b]
         clear hW9b x0 x1 X0' X1'
         obtain ⟨Gb, hGb⟩ : ∃ G, w2b.heap.size = G := ⟨_, rfl⟩
         rw [hGb] at c0b c1b hgnb ⊢)
       | (
         obtain ⟨X0', X1', -, hgb⟩ := set2 w4b w20.heap.size (.int .i64 T) (.slice asb L.length csb) _ _ x0 x1
         obtain ⟨W9b, hW9b⟩ : ∃ W9, W9 = ((w4b.setCell ⟨w20.heap.size, 0, none⟩ (.int .i64 T)).setCell ⟨w20.heap.size, 1, none⟩ (.slice asb L.length csb)) := ⟨_, rfl⟩
         have c0b : W9b.cell? ⟨w20.heap.size, 0, none⟩ = some (.int .i64 T) := by rw [hW9b]; exact X0'
         have c1b : W9b.cell? ⟨w20.heap.size, 1, none⟩ = some (.slice asb L.length csb) := by rw [hW9b]; exact X1'
         have B9b : Below w20.heap.size w20 W9b := by rw [hW9b]; exact (BWb.setCell (p := ⟨w20.heap.size, 0, none⟩) (show w20.heap.size ≤ w20.heap.size by omega) _).setCell (p := ⟨w20.heap.size, 1, none⟩) (show w20.heap.size ≤ w20.heap.size by omega) _
         have hrsb : RdRow 5 rowD W9b (.slice asb L.length csb) L := by rw [hW9b]; exact (own_set (own_set hoob (by omega) _) (by omega) _).rd rowD_len
         have hgnb : w20.heap.size ≤ w20.heap.size := by omega
         rw [← hW9b]
         clear hW9b x0 x1 X0' X1'
         obtain ⟨Gb, hGb⟩ : ∃ G, w20.heap.size = G := ⟨_, rfl⟩
         rw [hGb] at c0b c1b hgnb ⊢))
    all_goals (
      have hS9 := B9b.size
      have Q21 := Q20.tr B9b
      have h21 := HM20.out.below B9b
      have c0 := keepc B9b c0
      have c1 := keepc B9b c1
      have g0 := keepc B9b g0
      have g1 := keepc B9b g1
      go_wp2_with fail
      refine (c_laws_eqFrame L T _ _ _ hrsb (HS9.out.below Q21)).mono ?_; rintro e w22 ⟨rfl, hb22⟩
      have g0 := keepc hb22 g0
      have g1 := keepc hb22 g1
      have h22 := h21.below hb22
      go_wp2_with fail
      refine (c_laws_heldFrame T L.length 1 _ _ h22 (by omega) (by omega)).mono ?_; rintro e w23 ⟨rfl, hb23⟩
      go_wp2
      go_ret
      exact ⟨rfl, ((B9.tr Q21).tr hb22).tr hb23⟩))
theorem walk_big (p : List Int) (B D x t : Int) (a1 : Option Addr) (cap1 : Nat) (w : World) (hl : (p.length : Int) ≤ 9223372036854775807) (hn : ¬ p.length ≤ 1048576) :
    Calls Try.prog 7 #[.slice a1 p.length cap1, .agg #[.int .i64 B, .int .i64 D], .int .i64 x, .int .i64 t] w fun e w' => e = .returned (.bool true) ∧ Below w.heap.size w w' := by
  go_enter Try.func7, Try.ntmps7
  go_wp2
  go_ret
  exact ⟨rfl, by (repeat (first | (with_reducible assumption) | (with_reducible exact Below.refl _ _) | (with_reducible refine Below.setCell ?_ (by first | (simp; done) | (simp; omega)) _) | (with_reducible refine Below.al ?_ _) | (with_reducible refine Below.dr ?_) | (with_reducible refine Below.drN ?_ _) | (with_reducible refine Below.tr ?_ (by with_reducible assumption))))⟩
theorem walk (v0 v1 v2 v3 : Value) (w : World) (p0 : Arg_ints w v0) (p1 : Arg_Timing w v1) (p2 : Arg_int64 w v2) (p3 : Arg_int64 w v3) : Calls Try.prog 7 #[v0, v1, v2, v3] w fun e w' => e = .returned (.bool true) ∧ Below w.heap.size w w' := by
  obtain ⟨p, hp⟩ := p0
  obtain ⟨B, D, rfl⟩ := p1
  obtain ⟨x, rfl, -⟩ := p2
  obtain ⟨t, rfl, -⟩ := p3
  have hp' := hp
  obtain ⟨a1, cap1, rfl, hl1, _⟩ := hp'
  by_cases hn : p.length ≤ 1048576
  · exact walk_small p B D x t a1 cap1 w hp hn
  · exact walk_big p B D x t a1 cap1 w (by omega) hn
theorem own : ownKnob Try.prog.godebug = none := by kernel_rfl
theorem laidOut : laidOutB Try.prog = true := by kernel_rfl
set_option maxRecDepth 100000 in
theorem lifted (os : Os) (started : os.Started) (H : Type) (enc : TypeId × Value → H) :
    ReturnsInHanded {} Try.checked os 7 .any (Rows.fnExactFrameAtSpec.pre6 enc Try.prog Try.f7 Rows.fnExactFrameAtRow.domain false) (Rows.fnExactFrameAtSpec.post enc Try.prog Try.f7 false true false false) := by
  refine returnsInHanded_of_change (C := Try.checked) own started (by kernel_rfl) Try.func7
    (ChangeSpec.witness6 (enc := enc) (C := Try.checked) false ⟨#[], #[.slice none 0 0, .agg #[.int .i64 0, .int .i64 0], .int .i64 0, .int .i64 0], []⟩ 8 (by kernel_rfl) (by kernel_rfl) (by kernel_rfl) (by kernel_rfl)) ?_
  intro W base args ds gs before hval0 hW hcnd _
  have hval : ∀ (j : Nat) t v, Try.f7.params[j]? = some t → args[j]? = some v → Value.okWide Try.prog W .any base t v := hval0
  have hW' := hW
  obtain ⟨p, q, hA0, hV, rfl, hfz, hnd⟩ := hW
  have hA : DataW.TrodAll enc Try.prog W 0 (fun _ => true) true Try.f7.params.toList args.toList ds p := hA0
  rw [Try.params7] at hA hval
  obtain ⟨v0, vs0, d0, ds0, p0, q0, hargs, rfl, rfl, h0, r0⟩ := trodAll_cons hA
  obtain ⟨v1, vs1, d1, ds1, p1, q1, rfl, rfl, rfl, h1, r1⟩ := trodAll_cons r0
  obtain ⟨v2, vs2, d2, ds2, p2, q2, rfl, rfl, rfl, h2, r2⟩ := trodAll_cons r1
  obtain ⟨v3, vs3, d3, ds3, p3, q3, rfl, rfl, rfl, h3, r3⟩ := trodAll_cons r2
  obtain ⟨rfl, rfl, rfl⟩ := trodAll_nil r3
  obtain rfl : args = #[v0, v1, v2, v3] := by cases args; simp_all
  obtain ⟨rfl, rfl⟩ := trodVars_none hV
  have k0 := h0
  have lt0 : ∀ x ∈ p0, x.block < W.heap.size := by obtain ⟨m, hm⟩ := k0; exact DataW.trod_lt m _ _ _ hm
  have a0 := open_intsArg (hval 0 24 v0 rfl rfl) h0
  have k1 := h1
  have lt1 : ∀ x ∈ p1, x.block < W.heap.size := by obtain ⟨m, hm⟩ := k1; exact DataW.trod_lt m _ _ _ hm
  have a1 := open_Timing (hval 1 47 v1 rfl rfl) h1
  have k2 := h2
  have lt2 : ∀ x ∈ p2, x.block < W.heap.size := by obtain ⟨m, hm⟩ := k2; exact DataW.trod_lt m _ _ _ hm
  have a2 := open_int64 (hval 2 2 v2 rfl rfl) h2
  have k3 := h3
  have lt3 : ∀ x ∈ p3, x.block < W.heap.size := by obtain ⟨m, hm⟩ := k3; exact DataW.trod_lt m _ _ _ hm
  have a3 := open_int64 (hval 3 2 v3 rfl rfl) h3
  clear hA0 hval0
  refine (walk v0 v1 v2 v3 W a0 a1 a2 a3).mono fun e W' ⟨he, bel⟩ => ?_
  subst he
  exact ⟨_, rfl, _, _, _, [], _, [], hW', trodAll_mk1 (shut_bool Try.underlying4 _), (trodAll_cons_mk (Below.trod laidOut (by kernel_rfl) (of_decide_eq_true (by kernel_rfl)) k0 bel lt0) (trodAll_cons_mk (Below.trod laidOut (by kernel_rfl) (of_decide_eq_true (by kernel_rfl)) k1 bel lt1) (trodAll_cons_mk (Below.trod laidOut (by kernel_rfl) (of_decide_eq_true (by kernel_rfl)) k2 bel lt2) (trodAll_cons_mk (Below.trod laidOut (by kernel_rfl) (of_decide_eq_true (by kernel_rfl)) k3 bel lt3) trodAll_mk0)))), rfl, bel.frame _, fun h => by cases h⟩
theorem over : Rows.fnExactFrameAtRow.holds Try.pinned (OpenSpec.ofChange Rows.fnExactFrameAtSpec) :=
  OpenClaim.holds_of_wide 7 Try.f7 rfl rfl rfl rfl rfl rfl rfl ⟨rfl, rfl, rfl, rfl, rfl⟩ rfl rfl rfl rfl rfl (by kernel_rfl) Try.func7 (by kernel_rfl)
    (of_decide_eq_true (by kernel_rfl)) (by unfold Func.isWrapper; first | (rw [if_pos (by decide +kernel)]; kernel_rfl) | (rw [if_neg (by decide +kernel)]; exact ⟨rfl, rfl⟩))
    (fun os started H enc _ => lifted os started H enc)
theorem proved : Rows.FnExactFrameAtSaid := over
end Go.Proofs.Ytddfdppoclnpcaa.fnExactFrameAt
