/- The law LinesX: what it rests on, part 36 of 46. -/
import Derived.Test.YtioemkdapoombaaGreatDoorQLinesX17
import Derived.Test.YtioemkdapoombaaGreatDoorQLinesX34
import Derived.Test.YtioemkdapoombaaGreatDoorQLinesX35
section
namespace Go.Proofs.YtioemkdapoombaaGreatDoor
open Go.ChangeShapes Go.WideShapes Go.ChangeAt Go.RowKit
set_option linter.unusedSimpArgs false
set_option linter.unusedVariables false
/-- what a record has done: state, throws, ended -/
structure Rc where
  h : Int
  m : Int
  xs : List Int
  e : Bool
def Rc.run (R : Rc) (L : List Int) (k : Nat) : Rc := ⟨R.h, runM R.m L k, R.xs ++ L.take k, R.e⟩
theorem Rc.run_zero (R : Rc) (L : List Int) : R.run L 0 = R := by unfold Rc.run; rw [runM_zero]; simp
theorem rdI_block {a b : World} {v : Value} {xs : List Int} (h : RdI a v xs) (hb : ∀ k, v.ownBlock = some k → b.heap[k]? = a.heap[k]?) : RdI b v xs := by
  obtain ⟨ad, cap, rfl, hl, hc⟩ := h
  refine ⟨ad, cap, rfl, hl, fun k hk => ?_⟩
  obtain ⟨bl, off, rfl, hcell⟩ := hc k hk
  exact ⟨bl, off, rfl, (World.cell?_of_block (w := a) (hb bl rfl)).trans hcell⟩
/-- cells ahead of a record's state, and blocks K that are to be kept as Z says -/
structure StK where
  l : List Value
  K : Nat → Prop
  Z : Nat → Option Obj
def stk (l : List Value) : StK := ⟨l, fun _ => False, fun _ => none⟩
def KpT (st : StK) (g : Nat) (vo : Value) (w : World) : Prop := ∀ k, st.K k → k < w.heap.size ∧ k ≠ g ∧ vo.ownBlock ≠ some k ∧ w.heap[k]? = st.Z k
theorem KpT.set {st : StK} {g : Nat} {vo : Value} {w : World} (h : KpT st g vo w) (j : Nat) (u : Value) : KpT st g vo (w.setCell ⟨g, j, none⟩ u) := fun k hk => by
  obtain ⟨h1, h2, h3, h4⟩ := h k hk
  exact ⟨by simpa using h1, h2, h3, (Go.Deep.blk_setCell_other _ _ _ _ h2).trans h4⟩
/-- a record's block: its cells from o on (before them st), its throws' row vo, the value vc of its throws' cell -/
structure RecM (o : Nat) (st : StK) (B g : Nat) (w : World) (R : Rc) (vc vo : Value) : Prop where
  hB : B ≤ g
  hg : g < w.heap.size
  cs : ∀ j, j < o → w.cell? ⟨g, j, none⟩ = some (st.l.getD j undef)
  c0 : w.cell? ⟨g, o, none⟩ = some (.int .i64 R.h)
  c1 : w.cell? ⟨g, o + 1, none⟩ = some (.int .i64 R.m)
  c2 : w.cell? ⟨g, o + 2, none⟩ = some vc
  c3 : w.cell? ⟨g, o + 3, none⟩ = some (.bool R.e)
  fz : ∀ j, j < o + 4 → w.frozen? ⟨g, j, none⟩ = false
  own : OwnI 2 B w vo R.xs
  ne : vo.ownBlock ≠ some g
  sh : ∃ a n c, vo = .slice a n c
  kp : KpT st g vo w
theorem RecM.block {o : Nat} {st : StK} {B g : Nat} {w w' : World} {R : Rc} {vc vo : Value} (h : RecM o st B g w R vc vo) (hs : w.heap.size ≤ w'.heap.size) (hb : w'.heap[g]? = w.heap[g]?) (hv : ∀ k, vo.ownBlock = some k → w'.heap[k]? = w.heap[k]?) (hkk : ∀ k, k < w.heap.size → st.K k → w'.heap[k]? = w.heap[k]?) : RecM o st B g w' R vc vo :=
  ⟨h.hB, Nat.lt_of_lt_of_le h.hg hs, fun j hj => (World.cell?_of_block (w := w) hb).trans (h.cs j hj), (World.cell?_of_block (w := w) hb).trans h.c0, (World.cell?_of_block (w := w) hb).trans h.c1, (World.cell?_of_block (w := w) hb).trans h.c2, (World.cell?_of_block (w := w) hb).trans h.c3,
    fun j hj => (World.frozen?_of_block (w := w) hb).trans (h.fz j hj), (h.own.ir.block hv).1, h.ne, h.sh, fun k hk => ⟨Nat.lt_of_lt_of_le (h.kp k hk).1 hs, (h.kp k hk).2.1, (h.kp k hk).2.2.1, (hkk k (h.kp k hk).1 hk).trans (h.kp k hk).2.2.2⟩⟩
theorem RecM.below {o : Nat} {st : StK} {B g : Nat} {w w' : World} {R : Rc} {vc vo : Value} (h : RecM o st B g w R vc vo) (hb : Below w.heap.size w w') : RecM o st B g w' R vc vo :=
  h.block hb.size (hb.block g h.hg) (fun k hk => hb.block k (World.ownsRow.lt h.own k hk).2) (fun k hk _ => hb.block k hk)
/-- a throw appended: the row is another one, the cell not yet -/
theorem RecM.push {o : Nat} {st : StK} {B g n : Nat} {w w' : World} {R : Rc} {vc vo v' : Value} {xs' : List Int} (h : RecM o st B g w R vc vo) (hg : w.grownBy w' vo.ownBlock) (ho : OwnI 2 B w' v' xs') (hat : v'.ownBlock = vo.ownBlock ∨ v'.ownBlock = some n) (hn : w.heap.size ≤ n) (hs : ∃ a n c, v' = .slice a n c) : RecM o st B g w' ⟨R.h, R.m, xs', R.e⟩ vc v' := by
  have hb : w'.heap[g]? = w.heap[g]? := hg.block g h.hg (fun e => h.ne e.symm)
  exact ⟨h.hB, Nat.lt_of_lt_of_le h.hg hg.size, fun j hj => (World.cell?_of_block (w := w) hb).trans (h.cs j hj), (World.cell?_of_block (w := w) hb).trans h.c0, (World.cell?_of_block (w := w) hb).trans h.c1, (World.cell?_of_block (w := w) hb).trans h.c2, (World.cell?_of_block (w := w) hb).trans h.c3,
    fun j hj => (World.frozen?_of_block (w := w) hb).trans (h.fz j hj), ho, (by
      rcases hat with e | e
      · rw [e]; exact h.ne
      · rw [e]; intro e2; have := h.hg; simp only [Option.some.injEq] at e2; omega), hs, fun k hk => ⟨Nat.lt_of_lt_of_le (h.kp k hk).1 hg.size, (h.kp k hk).2.1, (by
      rcases hat with e | e
      · rw [e]; exact (h.kp k hk).2.2.1
      · rw [e]; intro e2; have := (h.kp k hk).1; simp only [Option.some.injEq] at e2; omega), (hg.block k (h.kp k hk).1 (fun e => (h.kp k hk).2.2.1 e.symm)).trans (h.kp k hk).2.2.2⟩⟩
theorem own_set {B g j : Nat} {w : World} {v u : Value} {xs : List Int} (h : OwnI 2 B w v xs) (hne : v.ownBlock ≠ some g) : OwnI 2 B (w.setCell ⟨g, j, none⟩ u) v xs :=
  (h.ir.block (fun k hk => Go.Deep.blk_setCell_other _ _ _ _ (fun e => hne (by rw [hk]; exact congrArg some e)))).1
theorem cset {w : World} {g j j' : Nat} {v u : Value} (hj : j ≠ j') (h : w.cell? ⟨g, j', none⟩ = some v) : (w.setCell ⟨g, j, none⟩ u).cell? ⟨g, j', none⟩ = some v := by
  rw [World.cell?_setCell_other _ _ _ _ (by intro e; injection e with e1 e2 e3; exact hj e2)]; exact h
theorem RecM.setm {o : Nat} {st : StK} {B g : Nat} {w : World} {R : Rc} {vc vo : Value} (h : RecM o st B g w R vc vo) (m' : Int) : RecM o st B g ((w.setCell ⟨g, o, none⟩ (.int .i64 R.h)).setCell ⟨g, o + 1, none⟩ (.int .i64 m')) ⟨R.h, m', R.xs, R.e⟩ vc vo :=
  ⟨h.hB, by simpa using h.hg, fun j hj => cset (by omega) (cset (by omega) (h.cs j hj)), cset (by omega) (World.cell?_setCell_same _ _ _ h.c0), World.cell?_setCell_same _ _ _ (cset (by omega) h.c1), cset (by omega) (cset (by omega) h.c2), cset (by omega) (cset (by omega) h.c3),
    fun j hj => by rw [World.frozen?_setCell, World.frozen?_setCell]; exact h.fz j hj, own_set (own_set h.own h.ne) h.ne, h.ne, h.sh, (h.kp.set _ _).set _ _⟩
theorem RecM.setv {o : Nat} {st : StK} {B g : Nat} {w : World} {R : Rc} {vc vo : Value} (h : RecM o st B g w R vc vo) : RecM o st B g (w.setCell ⟨g, o + 2, none⟩ vo) R vo vo :=
  ⟨h.hB, by simpa using h.hg, fun j hj => cset (by omega) (h.cs j hj), cset (by omega) h.c0, cset (by omega) h.c1, World.cell?_setCell_same _ _ _ h.c2, cset (by omega) h.c3,
    fun j hj => by rw [World.frozen?_setCell]; exact h.fz j hj, own_set h.own h.ne, h.ne, h.sh, h.kp.set _ _⟩
theorem RecM.sete {o : Nat} {st : StK} {B g : Nat} {w : World} {R : Rc} {vc vo : Value} (h : RecM o st B g w R vc vo) (b : Bool) : RecM o st B g (w.setCell ⟨g, o + 3, none⟩ (.bool b)) ⟨R.h, R.m, R.xs, b⟩ vc vo :=
  ⟨h.hB, by simpa using h.hg, fun j hj => cset (by omega) (h.cs j hj), cset (by omega) h.c0, cset (by omega) h.c1, cset (by omega) h.c2, World.cell?_setCell_same _ _ _ h.c3,
    fun j hj => by rw [World.frozen?_setCell]; exact h.fz j hj, own_set h.own h.ne, h.ne, h.sh, h.kp.set _ _⟩
/-- what a make gives -/
def MkP (o : Nat) (st : StK) (B g : Nat) (R : Rc) (vl : Value) (L : List Int) (w0 : World) (e : Ending) (w' : World) : Prop := e = .returned (.bool (runOk R.h R.m L)) ∧ Below B w0 w' ∧ (runOk R.h R.m L = true → ∃ v', RecM o st B g w' (R.run L L.length) v' v' ∧ RdI w' vl L ∧ ∀ b, vl.ownBlock = some b → b ≠ g ∧ v'.ownBlock ≠ some b)
theorem run_not {h m : Int} {L : List Int} {k : Nat} (hk : k < L.length) (hall : ∀ i, i < k → canAt h m L i = true) (hno : canAt h m L k = false) : runOk h m L = false := by
  unfold runOk
  rw [runN_eq (Nat.le_of_lt hk) hall (fun _ => hno)]
  exact decide_eq_false (by omega)
theorem run_yes {h m : Int} {L : List Int} (hall : ∀ i, i < L.length → canAt h m L i = true) : runOk h m L = true := by
  unfold runOk
  rw [runN_eq (Nat.le_refl _) hall (fun h => absurd h (Nat.lt_irrefl _))]
  exact decide_eq_true rfl
theorem Rc.run_succ {R : Rc} {L : List Int} {k : Nat} (hk : k < L.length) : R.run L (k + 1) = ⟨R.h, nextM (runM R.m L k) (L.getD k 0), (R.xs ++ L.take k) ++ [L.getD k 0], R.e⟩ := by
  unfold Rc.run
  rw [runM_succ R.m L k hk, List.append_assoc]
  congr 2
  rw [List.take_add_one]
  simp [List.getD, hk]
/-- the step of a make behind its append: the two stores -/
theorem mk_step {o : Nat} {st : StK} {B g n : Nat} {wa w' : World} {R : Rc} {v v' : Value} {m' t : Int} (h : RecM o st B g wa R v v) (hg : wa.grownBy w' v.ownBlock) (ho : OwnI 2 B w' v' (R.xs ++ [t])) (hat : v'.ownBlock = v.ownBlock ∨ v'.ownBlock = some n) (hn : wa.heap.size ≤ n) (hs : ∃ a n c, v' = .slice a n c) :
    RecM o st B g (((w'.setCell ⟨g, o, none⟩ (.int .i64 R.h)).setCell ⟨g, o + 1, none⟩ (.int .i64 m')).setCell ⟨g, o + 2, none⟩ v') ⟨R.h, m', R.xs ++ [t], R.e⟩ v' v' :=
  ((h.push hg ho hat hn hs).setm m').setv
set_option maxHeartbeats 16000000 in
set_option maxRecDepth 100000 in
theorem c_impl_record_make (st : StK) (B g : Nat) (R : Rc) (L : List Int) (v0 vl : Value) (w : World) (h : RecM 2 st B g w R v0 v0) (hv : validB R.h R.m = true) (hL : RdI w vl L) (hsp : ∀ b, vl.ownBlock = some b → b ≠ g ∧ v0.ownBlock ≠ some b) (hll : L.length ≤ 1000000) (hxl : R.xs.length ≤ 500000000) (hBw : B ≤ w.heap.size) :
    Calls Tryz.prog 104 #[.pointer (some ⟨g, 0, none⟩), vl] w fun e w' => MkP 2 st B g R vl L w e w' := by
  have HM := Lib.hid h
  have HV := Lib.hid hv
  obtain ⟨al, cl, rfl, hlz, hlc⟩ := hL
  have HRD : Hid (RdI w (.slice al L.length cl) L) := ⟨_, _, rfl, hlz, hlc⟩
  have HSP := Lib.hid hsp
  clear h hv hsp hlc
  go_enter Tryz.func104, Tryz.ntmps104
  go_wp2
  go_loopw [9] (fun i wr => ∃ k : Nat, k ≤ L.length ∧ i = .int .i64 k ∧ Hid (∀ i, i < k → canAt R.h R.m L i = true) ∧ ∃ v, RecM 2 st B g wr (R.run L k) v v ∧ RdI wr (.slice al L.length cl) L ∧ (∀ b, (Value.slice al L.length cl).ownBlock = some b → b ≠ g ∧ v.ownBlock ≠ some b) ∧ Below B w wr) (fun i _ => L.length - (intOf i).toNat)
  case atStart => exact ⟨0, by omega, rfl, fun i hi => by omega, v0, by rw [Rc.run_zero]; exact HM.out, HRD.out, HSP.out, Below.refl _ _⟩
  case round =>
    obtain ⟨k, hk, rfl, HA, v, M, hrd, hsp, BR⟩ := hrel
    have hbs := BR.size
    have hgw := M.hg
    have hBg := M.hB
    have HRS := Lib.hid (fun h => Rc.run_succ (R := R) (L := L) (k := k) h)
    have HRN := Lib.hid (fun h1 h2 h3 => run_not (h := R.h) (m := R.m) (L := L) (k := k) h1 h2 h3)
    have HRY := Lib.hid (fun h => run_yes (h := R.h) (m := R.m) (L := L) h)
    have hMb := run_bd HV.out k hk HA.out
    by_cases hlt : k < L.length
    · have hk0 : (0 : Int) ≤ (k : Int) := Int.natCast_nonneg _
      have hk1 : (k : Int) < (L.length : Int) := by omega
      obtain ⟨a9, c9, he9, hl9, hc9⟩ := hrd
      cases he9
      obtain ⟨b1, o1, rfl, y⟩ := hc9 k hlt
      have hb1w : b1 < wr.heap.size := World.block_lt_of_cell? wr _ y
      obtain ⟨hb1g, hb1v⟩ := hsp b1 rfl
      have hrd : RdI wr (.slice (some ⟨b1, o1, none⟩) L.length cl) L := ⟨_, _, rfl, hl9, hc9⟩
      clear hc9 hsp
      have HRSk := Lib.hid (HRS.out hlt)
      obtain ⟨x, Hx⟩ : ∃ x, Hid (L.getD k 0 = x) := ⟨_, rfl⟩
      obtain ⟨mm, HMm⟩ : ∃ mm, Hid (runM R.m L k = mm) := ⟨_, rfl⟩
      have HRk : Hid (R.run L k = ⟨R.h, mm, R.xs ++ L.take k, R.e⟩) := by unfold Hid Rc.run; rw [HMm.out]
      obtain ⟨ys, HY⟩ : ∃ ys, Hid (R.xs ++ L.take k = ys) := ⟨_, rfl⟩
      have hyl : ys.length < 1000000000 := by rw [← HY.out, List.length_append, List.length_take]; omega
      rw [Hx.out] at y HRSk
      rw [HMm.out] at HRSk hMb
      rw [HRk.out] at M
      rw [HY.out] at M HRSk
      obtain ⟨av, nv, cv, rfl⟩ := M.sh
      obtain ⟨H, hH⟩ : ∃ H, Hid (R.h = H) := ⟨_, Lib.hid rfl⟩
      rw [hH.out] at M HRSk hMb
      have HCA : Hid (canAt R.h R.m L k = canB H mm x) := by rw [← hH.out, ← HMm.out, ← Hx.out]; rfl
      have hHb : 1 ≤ H ∧ H ≤ 10 := by rw [← hH.out]; exact (validB_iff.1 HV.out).1
      have hM10 : 0 ≤ mm ∧ mm < 1024 := by
        have h1 := pow_le_1024 H.toNat (by omega)
        omega
      cases hcan : canB H mm x
      · have HN := Lib.hid (HRN.out hlt HA.out (by rw [HCA.out]; exact hcan))
        have c2 : wr.cell? ⟨g, 2, none⟩ = some (.int .i64 H) := M.c0
        have c3 : wr.cell? ⟨g, 3, none⟩ = some (.int .i64 mm) := M.c1
        go_wp2_with fail
        refine (c_impl_State_can H mm x _ (by omega) hM10).mono ?_; rintro e w2 ⟨rfl, hb2⟩; rw [hcan]
        go_wp2
        go_ret
        exact ⟨by rw [HN.out]; rfl, BR.trans (hb2.mono (by omega)), by rw [HN.out]; intro h; cases h⟩
      · have hxb := can_le (by omega) hcan
        have HA2 : Hid (∀ i, i < k + 1 → canAt R.h R.m L i = true) := fun i hi => by
          by_cases e : i = k
          · subst e; rw [HCA.out]; exact hcan
          · exact HA.out i (by omega)
        have c2 : wr.cell? ⟨g, 2, none⟩ = some (.int .i64 H) := M.c0
        have c3 : wr.cell? ⟨g, 3, none⟩ = some (.int .i64 mm) := M.c1
        go_wp2_with fail
        refine (c_impl_State_can H mm x _ (by omega) hM10).mono ?_; rintro e w2 ⟨rfl, hb2⟩; rw [hcan]
        have M2 := M.below (hb2.dr)
        have hs2 := hb2.size
        have hrd2 := hrd.below hb2.dr
        have BR2 : Below B w w2.drew := BR.trans (hb2.dr.mono (by omega))
        have cA : w2.drew.cell? ⟨g, 2, none⟩ = some (.int .i64 H) ∧ w2.drew.cell? ⟨g, 3, none⟩ = some (.int .i64 mm) := ⟨M2.c0, M2.c1⟩
        have cB : w2.drew.cell? ⟨g, 4, none⟩ = some (.slice av nv cv) := M2.c2
        clear c2 c3 hcan M hrd BR hb2
        go_wp2_with fail
        
        refine wp_region_noPanic ?_; refine wp_region_L (S := untilL 7 14 (fun w' => w'.cell? ⟨g, 2, none⟩ = some (.int .i64 H) ∧ w'.cell? ⟨g, 3, none⟩ = some (.int .i64 mm)) (fun w' => w'.cell? ⟨g, 4, none⟩ = some (.slice av nv cv))) (by kernel_rfl) ?_
        (refine wpAnyL_take (S0 := (fun _ => True)) (i := 0) (q := 15) (v := ?lv1) rfl rfl (by kernel_rfl) (by kernel_rfl) (by kernel_rfl) (by kernel_rfl) (by kernel_rfl) (fun _ _ _ h => h) (fun _ _ _ _ => True.intro) (untilL_set (by decide) (by decide)) (Or.inl ⟨by rfl, ?lhy1⟩) ⟨fun _ => cA, fun _ => cB⟩ ?lrest1; case lhy1 => (intro w hSw; (try dsimp only at hSw); go_simp; (try with_reducible rfl)); (try simp only [Act.put, List.getElem_toArray, List.getElem_cons_zero, List.getElem_cons_succ, List.setIfInBounds_toArray, List.set_cons_zero, List.set_cons_succ])); (refine wpAnyL_take (S0 := (fun _ => True)) (i := 1) (q := 18) (v := ?lv2) rfl rfl (by kernel_rfl) (by kernel_rfl) (by kernel_rfl) (by kernel_rfl) (by kernel_rfl) (fun _ _ _ h => h) (fun _ _ _ _ => True.intro) (untilL_set (by decide) (by decide)) (Or.inl ⟨by rfl, ?lhy2⟩) ⟨fun _ => cA, fun _ => cB⟩ ?lrest2; case lhy2 => (intro w hSw; (try dsimp only at hSw); go_simp; (try with_reducible rfl)); (try simp only [Act.put, List.getElem_toArray, List.getElem_cons_zero, List.getElem_cons_succ, List.setIfInBounds_toArray, List.set_cons_zero, List.set_cons_succ])); (refine wpAnyL_take (S0 := (fun _ => True)) (i := 2) (q := 3) (v := ?lv3) rfl rfl (by kernel_rfl) (by kernel_rfl) (by kernel_rfl) (by kernel_rfl) (by kernel_rfl) (fun _ _ _ h => h) (fun _ _ _ _ => True.intro) (untilL_set (by decide) (by decide)) (Or.inl ⟨by rfl, ?lhy3⟩) ⟨fun _ => cA, fun _ => cB⟩ ?lrest3; case lhy3 => (intro w hSw; (try dsimp only at hSw); go_simp; (try with_reducible rfl)); (try simp only [Act.put, List.getElem_toArray, List.getElem_cons_zero, List.getElem_cons_succ, List.setIfInBounds_toArray, List.set_cons_zero, List.set_cons_succ])); (refine wpAnyL_take (S0 := (fun _ => True)) (i := 3) (q := 4) (v := ?lv4) rfl rfl (by kernel_rfl) (by kernel_rfl) (by kernel_rfl) (by kernel_rfl) (by kernel_rfl) (fun _ _ _ h => h) (fun _ _ _ _ => True.intro) (untilL_set (by decide) (by decide)) (Or.inl ⟨by rfl, ?lhy4⟩) ⟨fun _ => cA, fun _ => cB⟩ ?lrest4; case lhy4 => (intro w hSw; (try dsimp only at hSw); go_simp; (try with_reducible rfl)); (try simp only [Act.put, List.getElem_toArray, List.getElem_cons_zero, List.getElem_cons_succ, List.setIfInBounds_toArray, List.set_cons_zero, List.set_cons_succ])); (refine wpAnyL_take (S0 := (fun _ => True)) (i := 4) (q := 5) (v := ?lv5) rfl rfl (by kernel_rfl) (by kernel_rfl) (by kernel_rfl) (by kernel_rfl) (by kernel_rfl) (fun _ _ _ h => h) (fun _ _ _ _ => True.intro) (untilL_set (by decide) (by decide)) (Or.inl ⟨by rfl, ?lhy5⟩) ⟨fun _ => cA, fun _ => cB⟩ ?lrest5; case lhy5 => (intro w hSw; (try dsimp only at hSw); go_simp; (try with_reducible rfl)); (try simp only [Act.put, List.getElem_toArray, List.getElem_cons_zero, List.getElem_cons_succ, List.setIfInBounds_toArray, List.set_cons_zero, List.set_cons_succ])); (refine wpAnyL_take (S0 := (fun w' => w'.cell? ⟨g, 2, none⟩ = some (.int .i64 H) ∧ w'.cell? ⟨g, 3, none⟩ = some (.int .i64 mm))) (i := 5) (q := 7) (v := ?lv6) rfl rfl (by kernel_rfl) (by kernel_rfl) (by kernel_rfl) (by kernel_rfl) (by kernel_rfl) (fun _ _ _ h => h) (fun _ _ hq hS => hS.1 hq) (untilL_set (by decide) (by decide)) (Or.inl ⟨by rfl, ?lhy6⟩) ⟨fun _ => cA, fun _ => cB⟩ ?lrest6; case lhy6 => (intro w hSw; (try dsimp only at hSw); go_simp; (try with_reducible rfl)); (try simp only [Act.put, List.getElem_toArray, List.getElem_cons_zero, List.getElem_cons_succ, List.setIfInBounds_toArray, List.set_cons_zero, List.set_cons_succ])); (refine wpAnyL_take (S0 := (fun _ => True)) (i := 6) (q := 7) (v := ?lv7) rfl rfl (by kernel_rfl) (by kernel_rfl) (by kernel_rfl) (by kernel_rfl) (by kernel_rfl) (fun _ _ _ h => h) (fun _ _ _ _ => True.intro) (untilL_set (by decide) (by decide)) (Or.inl ⟨by rfl, ?lhy7⟩) ⟨fun _ => cA, fun _ => cB⟩ ?lrest7; case lhy7 => (intro w hSw; (try dsimp only at hSw); go_simp; (try with_reducible rfl)); (try simp only [Act.put, List.getElem_toArray, List.getElem_cons_zero, List.getElem_cons_succ, List.setIfInBounds_toArray, List.set_cons_zero, List.set_cons_succ])); (refine wpAnyL_take (S0 := (fun _ => True)) (i := 8) (q := 9) (v := ?lv8) rfl rfl (by kernel_rfl) (by kernel_rfl) (by kernel_rfl) (by kernel_rfl) (by kernel_rfl) (fun _ _ _ h => h) (fun _ _ _ _ => True.intro) (untilL_set (by decide) (by decide)) (Or.inl ⟨by rfl, ?lhy8⟩) ⟨fun _ => cA, fun _ => cB⟩ ?lrest8; case lhy8 => (intro w hSw; (try dsimp only at hSw); go_simp; (try with_reducible rfl)); (try simp only [Act.put, List.getElem_toArray, List.getElem_cons_zero, List.getElem_cons_succ, List.setIfInBounds_toArray, List.set_cons_zero, List.set_cons_succ])); (refine wpAnyL_take (S0 := (fun _ => True)) (i := 9) (q := 10) (v := ?lv9) rfl rfl (by kernel_rfl) (by kernel_rfl) (by kernel_rfl) (by kernel_rfl) (by kernel_rfl) (fun _ _ _ h => h) (fun _ _ _ _ => True.intro) (untilL_set (by decide) (by decide)) (Or.inl ⟨by rfl, ?lhy9⟩) ⟨fun _ => cA, fun _ => cB⟩ ?lrest9; case lhy9 => (intro w hSw; (try dsimp only at hSw); go_simp; (try with_reducible rfl)); (try simp only [Act.put, List.getElem_toArray, List.getElem_cons_zero, List.getElem_cons_succ, List.setIfInBounds_toArray, List.set_cons_zero, List.set_cons_succ])); (refine wpAnyL_take (S0 := (fun _ => True)) (i := 10) (q := 11) (v := ?lv10) rfl rfl (by kernel_rfl) (by kernel_rfl) (by kernel_rfl) (by kernel_rfl) (by kernel_rfl) (fun _ _ _ h => h) (fun _ _ _ _ => True.intro) (untilL_set (by decide) (by decide)) (Or.inl ⟨by rfl, ?lhy10⟩) ⟨fun _ => cA, fun _ => cB⟩ ?lrest10; case lhy10 => (intro w hSw; (try dsimp only at hSw); go_simp; (try with_reducible rfl)); (try simp only [Act.put, List.getElem_toArray, List.getElem_cons_zero, List.getElem_cons_succ, List.setIfInBounds_toArray, List.set_cons_zero, List.set_cons_succ])); (refine wpAnyL_take (S0 := (fun w' => w'.cell? ⟨g, 4, none⟩ = some (.slice av nv cv))) (i := 11) (q := 14) (v := ?lv11) rfl rfl (by kernel_rfl) (by kernel_rfl) (by kernel_rfl) (by kernel_rfl) (by kernel_rfl) (fun _ _ _ h => h) (fun _ _ hq hS => hS.2 hq) (untilL_set (by decide) (by decide)) (Or.inl ⟨by rfl, ?lhy11⟩) ⟨fun _ => cA, fun _ => cB⟩ ?lrest11; case lhy11 => (intro w hSw; (try dsimp only at hSw); go_simp; (try with_reducible rfl)); (try simp only [Act.put, List.getElem_toArray, List.getElem_cons_zero, List.getElem_cons_succ, List.setIfInBounds_toArray, List.set_cons_zero, List.set_cons_succ])); (refine wpAnyL_take (S0 := (fun _ => True)) (i := 12) (q := 13) (v := ?lv12) rfl rfl (by kernel_rfl) (by kernel_rfl) (by kernel_rfl) (by kernel_rfl) (by kernel_rfl) (fun _ _ _ h => h) (fun _ _ _ _ => True.intro) (untilL_set (by decide) (by decide)) (Or.inl ⟨by rfl, ?lhy12⟩) ⟨fun _ => cA, fun _ => cB⟩ ?lrest12; case lhy12 => (intro w hSw; (try dsimp only at hSw); go_simp; (try with_reducible rfl)); (try simp only [Act.put, List.getElem_toArray, List.getElem_cons_zero, List.getElem_cons_succ, List.setIfInBounds_toArray, List.set_cons_zero, List.set_cons_succ]))
        refine wpAnyL_ready (rs := [7, 13]) (by kernel_rfl) (by simp) ?_
        refine (AllReadyL.cons (i := 7) rfl (fun K hK => ?_) (AllReadyL.cons (i := 13) rfl (fun K hK => ?_) AllReadyL.nil))
        · go_simp
          refine (c_impl_State_next H mm x _ hM10 (by omega)).mono ?_; rintro e w3 ⟨rfl, hb3⟩
          have M3 := M2.below hb3
          have hrd3 := hrd2.below hb3
          have BR3 : Below B w w3 := BR2.trans (hb3.mono (by show B ≤ w2.heap.size; omega))
          have hs3 : w2.heap.size ≤ w3.heap.size := hb3.size
          have cB3 : w3.cell? ⟨g, 4, none⟩ = some (.slice av nv cv) := M3.c2
          refine hK.out _ _ ⟨(fun h => Bool.noConfusion (show true = false from h)), (fun _ => cB3)⟩ (fun hHeld => ?_); clear hK K; (try simp only [Act.put, List.getElem_toArray, List.getElem_cons_zero, List.getElem_cons_succ, List.setIfInBounds_toArray, List.set_cons_zero, List.set_cons_succ])
          refine wpAnyL_ready (rs := [13]) (by kernel_rfl) (by simp) ?_; refine AllReadyL.cons (i := 13) rfl (fun K hK => ?_) AllReadyL.nil
          go_simp
          have hb4 : Below w3.heap.size w3 (w3.alloc (Obj.cells #[.int .i64 x] 2)) := (Below.refl _ _).al _
          have hblk : (w3.alloc (Obj.cells #[.int .i64 x] 2)).heap[w3.heap.size]? = some (.cells #[.int .i64 x] 2 (0, 0)) := heap_alloc_new _ _
          have M4 := M3.below hb4
          have hrd4 := hrd3.below hb4
          have BR4 : Below B w (w3.alloc (Obj.cells #[.int .i64 x] 2)) := BR3.trans (hb4.mono (by omega))
          have hs4 : w2.heap.size ≤ (w3.alloc (Obj.cells #[.int .i64 x] 2)).heap.size := by have := hb4.size; omega
          have cB4 : (w3.alloc (Obj.cells #[.int .i64 x] 2)).cell? ⟨g, 4, none⟩ = some (.slice av nv cv) := M4.c2
          refine hK.out _ _ ⟨(fun h => Bool.noConfusion (show true = false from h)), (fun _ => cB4)⟩ (fun hHeld => ?_); clear hK K; (try simp only [Act.put, List.getElem_toArray, List.getElem_cons_zero, List.getElem_cons_succ, List.setIfInBounds_toArray, List.set_cons_zero, List.set_cons_succ])
          obtain ⟨gb, hgb⟩ : ∃ gb, w3.heap.size = gb := ⟨_, rfl⟩
          rw [hgb] at hblk
          obtain ⟨w4, hw4⟩ : ∃ w4, w3.alloc (Obj.cells #[.int .i64 x] 2) = w4 := ⟨_, rfl⟩
          rw [hw4] at M4 hrd4 BR4 hs4 hblk cB4 ⊢
          clear hw4 hb4 cB3 M3 hrd3 BR3 hb3
          (try rw [hgb])
          clear hgb
          refine wpAnyL_ready (rs := [14]) (by kernel_rfl) (by simp) ?_; refine AllReadyL.cons (i := 14) rfl (fun K hK => ?_) AllReadyL.nil
          refine step_push_row (row := rowI) rfl _ _ _ _ rfl Tryz.underlying26 (.int .i64 0) 8 infoI rfl (by decide) (by decide) rowI_len B w4.heap.size gb (.slice av nv cv) ys x #[.int .i64 x] _ rfl (rowI_one _) rfl rfl hblk M4.own.ir.row hyl (by omega) ?_
          intro v' w' ho' hg' hat' hs'
          have hoi := ho'.ints.1
          obtain ⟨b5, cap5, rfl, -⟩ := OwnI.some_of hoi (by simp)
          have M5 := mk_step (m' := nextM mm x) M4 hg' hoi hat' (Nat.le_refl _) ⟨_, _, _, rfl⟩
          have MP := M4.push hg' hoi hat' (Nat.le_refl _) ⟨_, _, _, rfl⟩
          have d0 : w'.cell? ⟨g, 2, none⟩ = some (.int .i64 H) := MP.c0
          have d1 : w'.cell? ⟨g, 3, none⟩ = some (.int .i64 mm) := MP.c1
          have d2 : w'.cell? ⟨g, 4, none⟩ = some (.slice av nv cv) := MP.c2
          have f0 : w'.frozen? ⟨g, 2, none⟩ = false := MP.fz 2 (by omega)
          have f1 : w'.frozen? ⟨g, 3, none⟩ = false := MP.fz 3 (by omega)
          have f2 : w'.frozen? ⟨g, 4, none⟩ = false := MP.fz 4 (by omega)
          have BRs : Below B w w' := BR4.grown hg' (by omega) (fun q hq => (World.ownsRow.lt M4.own q hq).1)
          have hb5 : (∀ q, (Value.slice (some ⟨b5, 0, none⟩) (ys ++ [x]).length cap5).ownBlock = some q → q ≠ b1) := fun q hq e => by
            rcases hat' with e2 | e2
            · rw [e2, e] at hq; exact hb1v hq
            · rw [e2] at hq; simp only [Option.some.injEq] at hq; omega
          have hrd5 : RdI w' (.slice (some ⟨b1, o1, none⟩) L.length cl) L := rdI_block hrd4 (fun q hq => by
            have e : b1 = q := by simpa [Value.ownBlock] using hq
            subst e
            exact hg'.block b1 (by omega) (fun e => hb1v e.symm))
          generalize hv5 : Value.slice (some ⟨b5, 0, none⟩) (ys ++ [x]).length cap5 = v5 at *
          obtain ⟨n5, hn5⟩ : ∃ n5, (ys ++ [x]).length = n5 := ⟨_, rfl⟩
          rw [hn5] at hv5
          subst hv5
          clear hn5
          refine hK.out _ _ ⟨(fun h => Bool.noConfusion (show true = false from h)), (fun h => Bool.noConfusion (show true = false from h))⟩ (fun hHeld => ?_); clear hK K; (try simp only [Act.put, List.getElem_toArray, List.getElem_cons_zero, List.getElem_cons_succ, List.setIfInBounds_toArray, List.set_cons_zero, List.set_cons_succ])
          clear M4 cA cB cB4 BR4 hat' hoi ho' hrd4 MP hblk
          
          (refine wpAnyL_take (S0 := (fun _ => True)) (i := 15) (q := 16) (v := ?lv13) rfl rfl (by kernel_rfl) (by kernel_rfl) (by kernel_rfl) (by kernel_rfl) (by kernel_rfl) (fun _ _ _ h => h) (fun _ _ _ _ => True.intro) (untilL_set (by decide) (by decide)) (Or.inl ⟨by rfl, ?lhy13⟩) ⟨(fun h => Bool.noConfusion (show true = false from h)), (fun h => Bool.noConfusion (show true = false from h))⟩ ?lrest13; case lhy13 => (intro w hSw; (try dsimp only at hSw); go_simp; (try with_reducible rfl)); (try simp only [Act.put, List.getElem_toArray, List.getElem_cons_zero, List.getElem_cons_succ, List.setIfInBounds_toArray, List.set_cons_zero, List.set_cons_succ])); (refine wpAnyL_take (S0 := (fun _ => True)) (i := 16) (q := 17) (v := ?lv14) rfl rfl (by kernel_rfl) (by kernel_rfl) (by kernel_rfl) (by kernel_rfl) (by kernel_rfl) (fun _ _ _ h => h) (fun _ _ _ _ => True.intro) (untilL_set (by decide) (by decide)) (Or.inl ⟨by rfl, ?lhy14⟩) ⟨(fun h => Bool.noConfusion (show true = false from h)), (fun h => Bool.noConfusion (show true = false from h))⟩ ?lrest14; case lhy14 => (intro w hSw; (try dsimp only at hSw); go_simp; (try with_reducible rfl)); (try simp only [Act.put, List.getElem_toArray, List.getElem_cons_zero, List.getElem_cons_succ, List.setIfInBounds_toArray, List.set_cons_zero, List.set_cons_succ]))
          refine wpAnyL_ready (rs := [17]) (by kernel_rfl) (by simp) ?_; refine AllReadyL.cons (i := 17) rfl (fun K hK => ?_) AllReadyL.nil
          go_simp
          refine hK.out _ _ ⟨(fun h => Bool.noConfusion (show true = false from h)), (fun h => Bool.noConfusion (show true = false from h))⟩ (fun hHeld => ?_); clear hK K; (try simp only [Act.put, List.getElem_toArray, List.getElem_cons_zero, List.getElem_cons_succ, List.setIfInBounds_toArray, List.set_cons_zero, List.set_cons_succ])
          (refine wpAnyL_take (S0 := (fun _ => True)) (i := 18) (q := 19) (v := ?lv15) rfl rfl (by kernel_rfl) (by kernel_rfl) (by kernel_rfl) (by kernel_rfl) (by kernel_rfl) (fun _ _ _ h => h) (fun _ _ _ _ => True.intro) (untilL_set (by decide) (by decide)) (Or.inl ⟨by rfl, ?lhy15⟩) ⟨(fun h => Bool.noConfusion (show true = false from h)), (fun h => Bool.noConfusion (show true = false from h))⟩ ?lrest15; case lhy15 => (intro w hSw; (try dsimp only at hSw); go_simp; (try with_reducible rfl)); (try simp only [Act.put, List.getElem_toArray, List.getElem_cons_zero, List.getElem_cons_succ, List.setIfInBounds_toArray, List.set_cons_zero, List.set_cons_succ])); (refine wpAnyL_take (S0 := (fun _ => True)) (i := 19) (q := 20) (v := ?lv16) rfl rfl (by kernel_rfl) (by kernel_rfl) (by kernel_rfl) (by kernel_rfl) (by kernel_rfl) (fun _ _ _ h => h) (fun _ _ _ _ => True.intro) (untilL_set (by decide) (by decide)) (Or.inl ⟨by rfl, ?lhy16⟩) ⟨(fun h => Bool.noConfusion (show true = false from h)), (fun h => Bool.noConfusion (show true = false from h))⟩ ?lrest16; case lhy16 => (intro w hSw; (try dsimp only at hSw); go_simp; (try with_reducible rfl)); (try simp only [Act.put, List.getElem_toArray, List.getElem_cons_zero, List.getElem_cons_succ, List.setIfInBounds_toArray, List.set_cons_zero, List.set_cons_succ]))
          refine wpAnyL_ready (rs := [20]) (by kernel_rfl) (by simp) ?_; refine AllReadyL.cons (i := 20) rfl (fun K hK => ?_) AllReadyL.nil
          go_simp
          refine hK.out _ _ ⟨(fun h => Bool.noConfusion (show true = false from h)), (fun h => Bool.noConfusion (show true = false from h))⟩ (fun hHeld => ?_); clear hK K; (try simp only [Act.put, List.getElem_toArray, List.getElem_cons_zero, List.getElem_cons_succ, List.setIfInBounds_toArray, List.set_cons_zero, List.set_cons_succ])
          refine wpAnyL_done (by kernel_rfl) ?_ _; refine NoPanic.normal ?_
          have hrd6 : RdI (((w'.setCell ⟨g, 2, none⟩ (.int .i64 H)).setCell ⟨g, 3, none⟩ (.int .i64 (nextM mm x))).setCell ⟨g, 4, none⟩ (.slice (some ⟨b5, 0, none⟩) n5 cap5)) (.slice (some ⟨b1, o1, none⟩) L.length cl) L := rdI_block hrd5 (fun q hq => by
            have e : b1 = q := by simpa [Value.ownBlock] using hq
            subst e
            rw [Go.Deep.blk_setCell_other _ _ _ _ hb1g, Go.Deep.blk_setCell_other _ _ _ _ hb1g, Go.Deep.blk_setCell_other _ _ _ _ hb1g])
          have BR6 : Below B w (((w'.setCell ⟨g, 2, none⟩ (.int .i64 H)).setCell ⟨g, 3, none⟩ (.int .i64 (nextM mm x))).setCell ⟨g, 4, none⟩ (.slice (some ⟨b5, 0, none⟩) n5 cap5)) := ((BRs.setCell (p := ⟨g, 2, none⟩) hBg _).setCell (p := ⟨g, 3, none⟩) hBg _).setCell (p := ⟨g, 4, none⟩) hBg _
          have HZ := Lib.hid (And.intro M5 (And.intro hrd6 BR6))
          clear M5 hrd6 BR6 hrd5 BRs d0 d1 d2 f0 f1 f2
          generalize (((w'.setCell ⟨g, 2, none⟩ (.int .i64 H)).setCell ⟨g, 3, none⟩ (.int .i64 (nextM mm x))).setCell ⟨g, 4, none⟩ (.slice (some ⟨b5, 0, none⟩) n5 cap5)) = wz at *
          go_wp2
          go_roundw
          case rel => exact ⟨k + 1, by omega, by go_num, HA2, _, by rw [HRSk.out]; exact HZ.out.1, HZ.out.2.1, fun q hq => by
            have e : b1 = q := by simpa [Value.ownBlock] using hq
            subst e
            exact ⟨hb1g, fun h => hb5 b1 h rfl⟩, HZ.out.2.2⟩
          case measure => simp [intOf]; omega
        · go_simp
          have hb3 : Below w2.drew.heap.size w2.drew (w2.alloc (Obj.cells #[.int .i64 x] 2)).drew := ((Below.refl _ _).al _)
          have hblk3 : (w2.alloc (Obj.cells #[.int .i64 x] 2)).drew.heap[w2.heap.size]? = some (.cells #[.int .i64 x] 2 (0, 0)) := heap_alloc_new _ _
          have M3 := M2.below hb3
          have hrd3 := hrd2.below hb3
          have BR3 : Below B w (w2.alloc (Obj.cells #[.int .i64 x] 2)).drew := BR2.trans (hb3.mono (by show B ≤ w2.heap.size; omega))
          have hs3 : w2.heap.size < (w2.alloc (Obj.cells #[.int .i64 x] 2)).drew.heap.size := by show _ < (w2.alloc _).heap.size; simp
          have cA3 : (w2.alloc (Obj.cells #[.int .i64 x] 2)).drew.cell? ⟨g, 2, none⟩ = some (.int .i64 H) ∧ (w2.alloc (Obj.cells #[.int .i64 x] 2)).drew.cell? ⟨g, 3, none⟩ = some (.int .i64 mm) := ⟨M3.c0, M3.c1⟩
          have cB3 : (w2.alloc (Obj.cells #[.int .i64 x] 2)).drew.cell? ⟨g, 4, none⟩ = some (.slice av nv cv) := M3.c2
          refine hK.out _ _ ⟨(fun _ => cA3), (fun _ => cB3)⟩ (fun hHeld => ?_); clear hK K; (try simp only [Act.put, List.getElem_toArray, List.getElem_cons_zero, List.getElem_cons_succ, List.setIfInBounds_toArray, List.set_cons_zero, List.set_cons_succ])
          refine wpAnyL_ready (rs := [7]) (by kernel_rfl) (by simp) ?_; refine AllReadyL.cons (i := 7) rfl (fun K hK => ?_) AllReadyL.nil
          go_simp
          refine (c_impl_State_next H mm x _ hM10 (by omega)).mono ?_; rintro e w4 ⟨rfl, hb4⟩
          have M4 := M3.below hb4
          have hrd4 := hrd3.below hb4
          have BR4 : Below B w w4 := BR3.trans (hb4.mono (by omega))
          have hs4 : w2.heap.size ≤ w4.heap.size := by have := hb4.size; omega
          have hblk := (hb4.block w2.heap.size hs3).trans hblk3
          have cB4 : w4.cell? ⟨g, 4, none⟩ = some (.slice av nv cv) := M4.c2
          refine hK.out _ _ ⟨(fun h => Bool.noConfusion (show true = false from h)), (fun _ => cB4)⟩ (fun hHeld => ?_); clear hK K; (try simp only [Act.put, List.getElem_toArray, List.getElem_cons_zero, List.getElem_cons_succ, List.setIfInBounds_toArray, List.set_cons_zero, List.set_cons_succ])
          obtain ⟨gb, hgb⟩ : ∃ gb, w2.heap.size = gb := ⟨_, rfl⟩
          rw [hgb] at hblk
          clear hb4 cB3 cA3 M3 hrd3 BR3 hb3 hblk3 hs3
          (try rw [hgb])
          clear hgb
          refine wpAnyL_ready (rs := [14]) (by kernel_rfl) (by simp) ?_; refine AllReadyL.cons (i := 14) rfl (fun K hK => ?_) AllReadyL.nil
          refine step_push_row (row := rowI) rfl _ _ _ _ rfl Tryz.underlying26 (.int .i64 0) 8 infoI rfl (by decide) (by decide) rowI_len B w4.heap.size gb (.slice av nv cv) ys x #[.int .i64 x] _ rfl (rowI_one _) rfl rfl hblk M4.own.ir.row hyl (by omega) ?_
          intro v' w' ho' hg' hat' hs'
          have hoi := ho'.ints.1
          obtain ⟨b5, cap5, rfl, -⟩ := OwnI.some_of hoi (by simp)
          have M5 := mk_step (m' := nextM mm x) M4 hg' hoi hat' (Nat.le_refl _) ⟨_, _, _, rfl⟩
          have MP := M4.push hg' hoi hat' (Nat.le_refl _) ⟨_, _, _, rfl⟩
          have d0 : w'.cell? ⟨g, 2, none⟩ = some (.int .i64 H) := MP.c0
          have d1 : w'.cell? ⟨g, 3, none⟩ = some (.int .i64 mm) := MP.c1
          have d2 : w'.cell? ⟨g, 4, none⟩ = some (.slice av nv cv) := MP.c2
          have f0 : w'.frozen? ⟨g, 2, none⟩ = false := MP.fz 2 (by omega)
          have f1 : w'.frozen? ⟨g, 3, none⟩ = false := MP.fz 3 (by omega)
          have f2 : w'.frozen? ⟨g, 4, none⟩ = false := MP.fz 4 (by omega)
          have BRs : Below B w w' := BR4.grown hg' (by omega) (fun q hq => (World.ownsRow.lt M4.own q hq).1)
          have hb5 : (∀ q, (Value.slice (some ⟨b5, 0, none⟩) (ys ++ [x]).length cap5).ownBlock = some q → q ≠ b1) := fun q hq e => by
            rcases hat' with e2 | e2
            · rw [e2, e] at hq; exact hb1v hq
            · rw [e2] at hq; simp only [Option.some.injEq] at hq; omega
          have hrd5 : RdI w' (.slice (some ⟨b1, o1, none⟩) L.length cl) L := rdI_block hrd4 (fun q hq => by
            have e : b1 = q := by simpa [Value.ownBlock] using hq
            subst e
            exact hg'.block b1 (by omega) (fun e => hb1v e.symm))
          generalize hv5 : Value.slice (some ⟨b5, 0, none⟩) (ys ++ [x]).length cap5 = v5 at *
          obtain ⟨n5, hn5⟩ : ∃ n5, (ys ++ [x]).length = n5 := ⟨_, rfl⟩
          rw [hn5] at hv5
          subst hv5
          clear hn5
          refine hK.out _ _ ⟨(fun h => Bool.noConfusion (show true = false from h)), (fun h => Bool.noConfusion (show true = false from h))⟩ (fun hHeld => ?_); clear hK K; (try simp only [Act.put, List.getElem_toArray, List.getElem_cons_zero, List.getElem_cons_succ, List.setIfInBounds_toArray, List.set_cons_zero, List.set_cons_succ])
          clear M4 cA cB cB4 BR4 hat' hoi ho' hrd4 MP hblk
          
          (refine wpAnyL_take (S0 := (fun _ => True)) (i := 15) (q := 16) (v := ?lv17) rfl rfl (by kernel_rfl) (by kernel_rfl) (by kernel_rfl) (by kernel_rfl) (by kernel_rfl) (fun _ _ _ h => h) (fun _ _ _ _ => True.intro) (untilL_set (by decide) (by decide)) (Or.inl ⟨by rfl, ?lhy17⟩) ⟨(fun h => Bool.noConfusion (show true = false from h)), (fun h => Bool.noConfusion (show true = false from h))⟩ ?lrest17; case lhy17 => (intro w hSw; (try dsimp only at hSw); go_simp; (try with_reducible rfl)); (try simp only [Act.put, List.getElem_toArray, List.getElem_cons_zero, List.getElem_cons_succ, List.setIfInBounds_toArray, List.set_cons_zero, List.set_cons_succ])); (refine wpAnyL_take (S0 := (fun _ => True)) (i := 16) (q := 17) (v := ?lv18) rfl rfl (by kernel_rfl) (by kernel_rfl) (by kernel_rfl) (by kernel_rfl) (by kernel_rfl) (fun _ _ _ h => h) (fun _ _ _ _ => True.intro) (untilL_set (by decide) (by decide)) (Or.inl ⟨by rfl, ?lhy18⟩) ⟨(fun h => Bool.noConfusion (show true = false from h)), (fun h => Bool.noConfusion (show true = false from h))⟩ ?lrest18; case lhy18 => (intro w hSw; (try dsimp only at hSw); go_simp; (try with_reducible rfl)); (try simp only [Act.put, List.getElem_toArray, List.getElem_cons_zero, List.getElem_cons_succ, List.setIfInBounds_toArray, List.set_cons_zero, List.set_cons_succ]))
          refine wpAnyL_ready (rs := [17]) (by kernel_rfl) (by simp) ?_; refine AllReadyL.cons (i := 17) rfl (fun K hK => ?_) AllReadyL.nil
          go_simp
          refine hK.out _ _ ⟨(fun h => Bool.noConfusion (show true = false from h)), (fun h => Bool.noConfusion (show true = false from h))⟩ (fun hHeld => ?_); clear hK K; (try simp only [Act.put, List.getElem_toArray, List.getElem_cons_zero, List.getElem_cons_succ, List.setIfInBounds_toArray, List.set_cons_zero, List.set_cons_succ])
          (refine wpAnyL_take (S0 := (fun _ => True)) (i := 18) (q := 19) (v := ?lv19) rfl rfl (by kernel_rfl) (by kernel_rfl) (by kernel_rfl) (by kernel_rfl) (by kernel_rfl) (fun _ _ _ h => h) (fun _ _ _ _ => True.intro) (untilL_set (by decide) (by decide)) (Or.inl ⟨by rfl, ?lhy19⟩) ⟨(fun h => Bool.noConfusion (show true = false from h)), (fun h => Bool.noConfusion (show true = false from h))⟩ ?lrest19; case lhy19 => (intro w hSw; (try dsimp only at hSw); go_simp; (try with_reducible rfl)); (try simp only [Act.put, List.getElem_toArray, List.getElem_cons_zero, List.getElem_cons_succ, List.setIfInBounds_toArray, List.set_cons_zero, List.set_cons_succ])); (refine wpAnyL_take (S0 := (fun _ => True)) (i := 19) (q := 20) (v := ?lv20) rfl rfl (by kernel_rfl) (by kernel_rfl) (by kernel_rfl) (by kernel_rfl) (by kernel_rfl) (fun _ _ _ h => h) (fun _ _ _ _ => True.intro) (untilL_set (by decide) (by decide)) (Or.inl ⟨by rfl, ?lhy20⟩) ⟨(fun h => Bool.noConfusion (show true = false from h)), (fun h => Bool.noConfusion (show true = false from h))⟩ ?lrest20; case lhy20 => (intro w hSw; (try dsimp only at hSw); go_simp; (try with_reducible rfl)); (try simp only [Act.put, List.getElem_toArray, List.getElem_cons_zero, List.getElem_cons_succ, List.setIfInBounds_toArray, List.set_cons_zero, List.set_cons_succ]))
          refine wpAnyL_ready (rs := [20]) (by kernel_rfl) (by simp) ?_; refine AllReadyL.cons (i := 20) rfl (fun K hK => ?_) AllReadyL.nil
          go_simp
          refine hK.out _ _ ⟨(fun h => Bool.noConfusion (show true = false from h)), (fun h => Bool.noConfusion (show true = false from h))⟩ (fun hHeld => ?_); clear hK K; (try simp only [Act.put, List.getElem_toArray, List.getElem_cons_zero, List.getElem_cons_succ, List.setIfInBounds_toArray, List.set_cons_zero, List.set_cons_succ])
          refine wpAnyL_done (by kernel_rfl) ?_ _; refine NoPanic.normal ?_
          have hrd6 : RdI (((w'.setCell ⟨g, 2, none⟩ (.int .i64 H)).setCell ⟨g, 3, none⟩ (.int .i64 (nextM mm x))).setCell ⟨g, 4, none⟩ (.slice (some ⟨b5, 0, none⟩) n5 cap5)) (.slice (some ⟨b1, o1, none⟩) L.length cl) L := rdI_block hrd5 (fun q hq => by
            have e : b1 = q := by simpa [Value.ownBlock] using hq
            subst e
            rw [Go.Deep.blk_setCell_other _ _ _ _ hb1g, Go.Deep.blk_setCell_other _ _ _ _ hb1g, Go.Deep.blk_setCell_other _ _ _ _ hb1g])
          have BR6 : Below B w (((w'.setCell ⟨g, 2, none⟩ (.int .i64 H)).setCell ⟨g, 3, none⟩ (.int .i64 (nextM mm x))).setCell ⟨g, 4, none⟩ (.slice (some ⟨b5, 0, none⟩) n5 cap5)) := ((BRs.setCell (p := ⟨g, 2, none⟩) hBg _).setCell (p := ⟨g, 3, none⟩) hBg _).setCell (p := ⟨g, 4, none⟩) hBg _
          have HZ := Lib.hid (And.intro M5 (And.intro hrd6 BR6))
          clear M5 hrd6 BR6 hrd5 BRs d0 d1 d2 f0 f1 f2
          generalize (((w'.setCell ⟨g, 2, none⟩ (.int .i64 H)).setCell ⟨g, 3, none⟩ (.int .i64 (nextM mm x))).setCell ⟨g, 4, none⟩ (.slice (some ⟨b5, 0, none⟩) n5 cap5)) = wz at *
          go_wp2
          go_roundw
          case rel => exact ⟨k + 1, by omega, by go_num, HA2, _, by rw [HRSk.out]; exact HZ.out.1, HZ.out.2.1, fun q hq => by
            have e : b1 = q := by simpa [Value.ownBlock] using hq
            subst e
            exact ⟨hb1g, fun h => hb5 b1 h rfl⟩, HZ.out.2.2⟩
          case measure => simp [intOf]; omega
    · obtain rfl : k = L.length := by omega
      have HT := Lib.hid (HRY.out HA.out)
      go_wp2
      go_ret
      exact ⟨by rw [HT.out]; rfl, BR, fun _ => ⟨v, M, hrd, hsp⟩⟩
set_option maxHeartbeats 16000000 in
set_option maxRecDepth 100000 in
theorem c_spec_l27R_make (st : StK) (B g : Nat) (R : Rc) (L : List Int) (v0 vl : Value) (w : World) (h : RecM 0 st B g w R v0 v0) (hv : validB R.h R.m = true) (hL : RdI w vl L) (hsp : ∀ b, vl.ownBlock = some b → b ≠ g ∧ v0.ownBlock ≠ some b) (hll : L.length ≤ 1000000) (hxl : R.xs.length ≤ 500000000) (hBw : B ≤ w.heap.size) :
    Calls Tryz.prog 124 #[.pointer (some ⟨g, 0, none⟩), vl] w fun e w' => MkP 0 st B g R vl L w e w' := by
  have HM := Lib.hid h
  have HV := Lib.hid hv
  obtain ⟨al, cl, rfl, hlz, hlc⟩ := hL
  have HRD : Hid (RdI w (.slice al L.length cl) L) := ⟨_, _, rfl, hlz, hlc⟩
  have HSP := Lib.hid hsp
  clear h hv hsp hlc
  go_enter Tryz.func124, Tryz.ntmps124
  go_wp2
  go_loopw [5] (fun i wr => ∃ k : Nat, k ≤ L.length ∧ i = .int .i64 k ∧ Hid (∀ i, i < k → canAt R.h R.m L i = true) ∧ ∃ v, RecM 0 st B g wr (R.run L k) v v ∧ RdI wr (.slice al L.length cl) L ∧ (∀ b, (Value.slice al L.length cl).ownBlock = some b → b ≠ g ∧ v.ownBlock ≠ some b) ∧ Below B w wr) (fun i _ => L.length - (intOf i).toNat)
  case atStart => exact ⟨0, by omega, rfl, fun i hi => by omega, v0, by rw [Rc.run_zero]; exact HM.out, HRD.out, HSP.out, Below.refl _ _⟩
  case round =>
    obtain ⟨k, hk, rfl, HA, v, M, hrd, hsp, BR⟩ := hrel
    have hbs := BR.size
    have hgw := M.hg
    have hBg := M.hB
    have HRS := Lib.hid (fun h => Rc.run_succ (R := R) (L := L) (k := k) h)
    have HRN := Lib.hid (fun h1 h2 h3 => run_not (h := R.h) (m := R.m) (L := L) (k := k) h1 h2 h3)
    have HRY := Lib.hid (fun h => run_yes (h := R.h) (m := R.m) (L := L) h)
    have hMb := run_bd HV.out k hk HA.out
    by_cases hlt : k < L.length
    · have hk0 : (0 : Int) ≤ (k : Int) := Int.natCast_nonneg _
      have hk1 : (k : Int) < (L.length : Int) := by omega
      obtain ⟨a9, c9, he9, hl9, hc9⟩ := hrd
      cases he9
      obtain ⟨b1, o1, rfl, y⟩ := hc9 k hlt
      have hb1w : b1 < wr.heap.size := World.block_lt_of_cell? wr _ y
      obtain ⟨hb1g, hb1v⟩ := hsp b1 rfl
      have hrd : RdI wr (.slice (some ⟨b1, o1, none⟩) L.length cl) L := ⟨_, _, rfl, hl9, hc9⟩
      clear hc9 hsp
      have HRSk := Lib.hid (HRS.out hlt)
      obtain ⟨x, Hx⟩ : ∃ x, Hid (L.getD k 0 = x) := ⟨_, rfl⟩
      obtain ⟨mm, HMm⟩ : ∃ mm, Hid (runM R.m L k = mm) := ⟨_, rfl⟩
      have HRk : Hid (R.run L k = ⟨R.h, mm, R.xs ++ L.take k, R.e⟩) := by unfold Hid Rc.run; rw [HMm.out]
      obtain ⟨ys, HY⟩ : ∃ ys, Hid (R.xs ++ L.take k = ys) := ⟨_, rfl⟩
      have hyl : ys.length < 1000000000 := by rw [← HY.out, List.length_append, List.length_take]; omega
      rw [Hx.out] at y HRSk
      rw [HMm.out] at HRSk hMb
      rw [HRk.out] at M
      rw [HY.out] at M HRSk
      obtain ⟨av, nv, cv, rfl⟩ := M.sh
      obtain ⟨H, hH⟩ : ∃ H, Hid (R.h = H) := ⟨_, Lib.hid rfl⟩
      rw [hH.out] at M HRSk hMb
      have HCA : Hid (canAt R.h R.m L k = canB H mm x) := by rw [← hH.out, ← HMm.out, ← Hx.out]; rfl
      have hHb : 1 ≤ H ∧ H ≤ 10 := by rw [← hH.out]; exact (validB_iff.1 HV.out).1
      have hM10 : 0 ≤ mm ∧ mm < 1024 := by
        have h1 := pow_le_1024 H.toNat (by omega)
        omega
      cases hcan : canB H mm x
      · have HN := Lib.hid (HRN.out hlt HA.out (by rw [HCA.out]; exact hcan))
        have c2 : wr.cell? ⟨g, 0, none⟩ = some (.int .i64 H) := M.c0
        have c3 : wr.cell? ⟨g, 1, none⟩ = some (.int .i64 mm) := M.c1
        go_wp2_with fail
        go_region_held3 (fun w' => w'.cell? ⟨g, 0, none⟩ = some (.int .i64 H) ∧ w'.cell? ⟨g, 1, none⟩ = some (.int .i64 mm) ∧ w'.cell? ⟨b1, o1 + k, none⟩ = some (.int .i64 x))
          (go_keep)
          (((go_at_call 36; refine (c_spec_l08Can H mm x _ (by omega) hM10).mono ?_; rintro e w2 ⟨rfl, hb2⟩; have hb2' := below_drew hb2; have z0 := keepc hb2' c2; have z1 := keepc hb2' c3; have z2 := keepc hb2' y)))
        (try rw [hcan])
        go_wp2
        go_ret
        exact ⟨by rw [HN.out]; rfl, BR.trans (hb2'.mono (by omega)), by rw [HN.out]; intro h; cases h⟩
      · have hxb := can_le (by omega) hcan
        have HA2 : Hid (∀ i, i < k + 1 → canAt R.h R.m L i = true) := fun i hi => by
          by_cases e : i = k
          · subst e; rw [HCA.out]; exact hcan
          · exact HA.out i (by omega)
        have c2 : wr.cell? ⟨g, 0, none⟩ = some (.int .i64 H) := M.c0
        have c3 : wr.cell? ⟨g, 1, none⟩ = some (.int .i64 mm) := M.c1
        go_wp2_with fail
        go_region_held3 (fun w' => w'.cell? ⟨g, 0, none⟩ = some (.int .i64 H) ∧ w'.cell? ⟨g, 1, none⟩ = some (.int .i64 mm) ∧ w'.cell? ⟨b1, o1 + k, none⟩ = some (.int .i64 x))
          (go_keep)
          (((go_at_call 36; refine (c_spec_l08Can H mm x _ (by omega) hM10).mono ?_; rintro e w2 ⟨rfl, hb2⟩; have hb2' := below_drew hb2; have z0 := keepc hb2' c2; have z1 := keepc hb2' c3; have z2 := keepc hb2' y)))
        (try rw [hcan])
        have M2 := M.below (hb2'.dr)
        have hs2 := hb2'.size
        have hrd2 := hrd.below hb2'.dr
        have y2 : w2.drew.cell? ⟨b1, o1 + k, none⟩ = some (.int .i64 x) := keepc hb2' y
        have BR2 : Below B w w2.drew := BR.trans (hb2'.dr.mono (by omega))
        have cA : w2.drew.cell? ⟨g, 0, none⟩ = some (.int .i64 H) ∧ w2.drew.cell? ⟨g, 1, none⟩ = some (.int .i64 mm) := ⟨M2.c0, M2.c1⟩
        have hb1w2 : b1 < w2.heap.size := by omega
        clear c2 c3 hcan M hrd BR hb2' y
        go_wp2_with fail
        
        refine wp_region_noPanic ?_; refine wp_region_L (S := untilL 9 9 (fun w' => w'.cell? ⟨g, 0, none⟩ = some (.int .i64 H) ∧ w'.cell? ⟨g, 1, none⟩ = some (.int .i64 mm)) (fun w' => w'.cell? ⟨b1, o1 + k, none⟩ = some (.int .i64 x))) (by kernel_rfl) ?_
        (refine wpAnyL_take (S0 := (fun _ => True)) (i := 0) (q := 10) (v := ?lv21) rfl rfl (by kernel_rfl) (by kernel_rfl) (by kernel_rfl) (by kernel_rfl) (by kernel_rfl) (fun _ _ _ h => h) (fun _ _ _ _ => True.intro) (untilL_set (by decide) (by decide)) (Or.inl ⟨by rfl, ?lhy21⟩) ⟨fun _ => cA, fun _ => y2⟩ ?lrest21; case lhy21 => (intro w hSw; (try dsimp only at hSw); go_simp; (try with_reducible rfl)); (try simp only [Act.put, List.getElem_toArray, List.getElem_cons_zero, List.getElem_cons_succ, List.setIfInBounds_toArray, List.set_cons_zero, List.set_cons_succ])); (refine wpAnyL_take (S0 := (fun _ => True)) (i := 1) (q := 2) (v := ?lv22) rfl rfl (by kernel_rfl) (by kernel_rfl) (by kernel_rfl) (by kernel_rfl) (by kernel_rfl) (fun _ _ _ h => h) (fun _ _ _ _ => True.intro) (untilL_set (by decide) (by decide)) (Or.inl ⟨by rfl, ?lhy22⟩) ⟨fun _ => cA, fun _ => y2⟩ ?lrest22; case lhy22 => (intro w hSw; (try dsimp only at hSw); go_simp; (try with_reducible rfl)); (try simp only [Act.put, List.getElem_toArray, List.getElem_cons_zero, List.getElem_cons_succ, List.setIfInBounds_toArray, List.set_cons_zero, List.set_cons_succ])); (refine wpAnyL_take (S0 := (fun _ => True)) (i := 2) (q := 3) (v := ?lv23) rfl rfl (by kernel_rfl) (by kernel_rfl) (by kernel_rfl) (by kernel_rfl) (by kernel_rfl) (fun _ _ _ h => h) (fun _ _ _ _ => True.intro) (untilL_set (by decide) (by decide)) (Or.inl ⟨by rfl, ?lhy23⟩) ⟨fun _ => cA, fun _ => y2⟩ ?lrest23; case lhy23 => (intro w hSw; (try dsimp only at hSw); go_simp; (try with_reducible rfl)); (try simp only [Act.put, List.getElem_toArray, List.getElem_cons_zero, List.getElem_cons_succ, List.setIfInBounds_toArray, List.set_cons_zero, List.set_cons_succ])); (refine wpAnyL_take (S0 := (fun _ => True)) (i := 3) (q := 4) (v := ?lv24) rfl rfl (by kernel_rfl) (by kernel_rfl) (by kernel_rfl) (by kernel_rfl) (by kernel_rfl) (fun _ _ _ h => h) (fun _ _ _ _ => True.intro) (untilL_set (by decide) (by decide)) (Or.inl ⟨by rfl, ?lhy24⟩) ⟨fun _ => cA, fun _ => y2⟩ ?lrest24; case lhy24 => (intro w hSw; (try dsimp only at hSw); go_simp; (try with_reducible rfl)); (try simp only [Act.put, List.getElem_toArray, List.getElem_cons_zero, List.getElem_cons_succ, List.setIfInBounds_toArray, List.set_cons_zero, List.set_cons_succ])); (refine wpAnyL_take (S0 := (fun w' => w'.cell? ⟨g, 0, none⟩ = some (.int .i64 H) ∧ w'.cell? ⟨g, 1, none⟩ = some (.int .i64 mm))) (i := 4) (q := 9) (v := ?lv25) rfl rfl (by kernel_rfl) (by kernel_rfl) (by kernel_rfl) (by kernel_rfl) (by kernel_rfl) (fun _ _ _ h => h) (fun _ _ hq hS => hS.1 hq) (untilL_set (by decide) (by decide)) (Or.inl ⟨by rfl, ?lhy25⟩) ⟨fun _ => cA, fun _ => y2⟩ ?lrest25; case lhy25 => (intro w hSw; (try dsimp only at hSw); go_simp; (try with_reducible rfl)); (try simp only [Act.put, List.getElem_toArray, List.getElem_cons_zero, List.getElem_cons_succ, List.setIfInBounds_toArray, List.set_cons_zero, List.set_cons_succ])); (refine wpAnyL_take (S0 := (fun _ => True)) (i := 5) (q := 7) (v := ?lv26) rfl rfl (by kernel_rfl) (by kernel_rfl) (by kernel_rfl) (by kernel_rfl) (by kernel_rfl) (fun _ _ _ h => h) (fun _ _ _ _ => True.intro) (untilL_set (by decide) (by decide)) (Or.inl ⟨by rfl, ?lhy26⟩) ⟨fun _ => cA, fun _ => y2⟩ ?lrest26; case lhy26 => (intro w hSw; (try dsimp only at hSw); go_simp; (try with_reducible rfl)); (try simp only [Act.put, List.getElem_toArray, List.getElem_cons_zero, List.getElem_cons_succ, List.setIfInBounds_toArray, List.set_cons_zero, List.set_cons_succ])); (refine wpAnyL_take (S0 := (fun _ => True)) (i := 6) (q := 7) (v := ?lv27) rfl rfl (by kernel_rfl) (by kernel_rfl) (by kernel_rfl) (by kernel_rfl) (by kernel_rfl) (fun _ _ _ h => h) (fun _ _ _ _ => True.intro) (untilL_set (by decide) (by decide)) (Or.inl ⟨by rfl, ?lhy27⟩) ⟨fun _ => cA, fun _ => y2⟩ ?lrest27; case lhy27 => (intro w hSw; (try dsimp only at hSw); go_simp; (try with_reducible rfl)); (try simp only [Act.put, List.getElem_toArray, List.getElem_cons_zero, List.getElem_cons_succ, List.setIfInBounds_toArray, List.set_cons_zero, List.set_cons_succ])); (refine wpAnyL_take (S0 := (fun _ => True)) (i := 7) (q := 8) (v := ?lv28) rfl rfl (by kernel_rfl) (by kernel_rfl) (by kernel_rfl) (by kernel_rfl) (by kernel_rfl) (fun _ _ _ h => h) (fun _ _ _ _ => True.intro) (untilL_set (by decide) (by decide)) (Or.inl ⟨by rfl, ?lhy28⟩) ⟨fun _ => cA, fun _ => y2⟩ ?lrest28; case lhy28 => (intro w hSw; (try dsimp only at hSw); go_simp; (try with_reducible rfl)); (try simp only [Act.put, List.getElem_toArray, List.getElem_cons_zero, List.getElem_cons_succ, List.setIfInBounds_toArray, List.set_cons_zero, List.set_cons_succ])); (refine wpAnyL_take (S0 := (fun w' => w'.cell? ⟨b1, o1 + k, none⟩ = some (.int .i64 x))) (i := 8) (q := 9) (v := ?lv29) rfl rfl (by kernel_rfl) (by kernel_rfl) (by kernel_rfl) (by kernel_rfl) (by kernel_rfl) (fun _ _ _ h => h) (fun _ _ hq hS => hS.2 hq) (untilL_set (by decide) (by decide)) (Or.inl ⟨by rfl, ?lhy29⟩) ⟨fun _ => cA, fun _ => y2⟩ ?lrest29; case lhy29 => (intro w hSw; (try dsimp only at hSw); go_simp; (try with_reducible rfl)); (try simp only [Act.put, List.getElem_toArray, List.getElem_cons_zero, List.getElem_cons_succ, List.setIfInBounds_toArray, List.set_cons_zero, List.set_cons_succ]))
        refine wpAnyL_ready (rs := [9]) (by kernel_rfl) (by simp) ?_; refine AllReadyL.cons (i := 9) rfl (fun K hK => ?_) AllReadyL.nil
        go_simp
        refine (c_spec_l08Next H mm x _ hM10 (by omega)).mono ?_; rintro e w3 ⟨rfl, hb3⟩
        have M3 := M2.below hb3
        have hrd3 := hrd2.below hb3
        have y3 := keepc hb3 y2
        have BR3 : Below B w w3 := BR2.trans (hb3.mono (by show B ≤ w2.heap.size; omega))
        have hs3 : w2.heap.size ≤ w3.heap.size := hb3.size
        have d0 : w3.cell? ⟨g, 0, none⟩ = some (.int .i64 H) := M3.c0
        have d1 : w3.cell? ⟨g, 1, none⟩ = some (.int .i64 mm) := M3.c1
        have f0 : w3.frozen? ⟨g, 0, none⟩ = false := M3.fz 0 (by omega)
        have f1 : w3.frozen? ⟨g, 1, none⟩ = false := M3.fz 1 (by omega)
        refine hK.out _ _ ⟨(fun h => Bool.noConfusion (show true = false from h)), (fun h => Bool.noConfusion (show true = false from h))⟩ (fun hHeld => ?_); clear hK K; (try simp only [Act.put, List.getElem_toArray, List.getElem_cons_zero, List.getElem_cons_succ, List.setIfInBounds_toArray, List.set_cons_zero, List.set_cons_succ])
        (refine wpAnyL_take (S0 := (fun _ => True)) (i := 10) (q := 11) (v := ?lv30) rfl rfl (by kernel_rfl) (by kernel_rfl) (by kernel_rfl) (by kernel_rfl) (by kernel_rfl) (fun _ _ _ h => h) (fun _ _ _ _ => True.intro) (untilL_set (by decide) (by decide)) (Or.inl ⟨by rfl, ?lhy30⟩) ⟨(fun h => Bool.noConfusion (show true = false from h)), (fun h => Bool.noConfusion (show true = false from h))⟩ ?lrest30; case lhy30 => (intro w hSw; (try dsimp only at hSw); go_simp; (try with_reducible rfl)); (try simp only [Act.put, List.getElem_toArray, List.getElem_cons_zero, List.getElem_cons_succ, List.setIfInBounds_toArray, List.set_cons_zero, List.set_cons_succ])); (refine wpAnyL_take (S0 := (fun _ => True)) (i := 11) (q := 12) (v := ?lv31) rfl rfl (by kernel_rfl) (by kernel_rfl) (by kernel_rfl) (by kernel_rfl) (by kernel_rfl) (fun _ _ _ h => h) (fun _ _ _ _ => True.intro) (untilL_set (by decide) (by decide)) (Or.inl ⟨by rfl, ?lhy31⟩) ⟨(fun h => Bool.noConfusion (show true = false from h)), (fun h => Bool.noConfusion (show true = false from h))⟩ ?lrest31; case lhy31 => (intro w hSw; (try dsimp only at hSw); go_simp; (try with_reducible rfl)); (try simp only [Act.put, List.getElem_toArray, List.getElem_cons_zero, List.getElem_cons_succ, List.setIfInBounds_toArray, List.set_cons_zero, List.set_cons_succ]))
        refine wpAnyL_ready (rs := [12]) (by kernel_rfl) (by simp) ?_; refine AllReadyL.cons (i := 12) rfl (fun K hK => ?_) AllReadyL.nil
        go_simp
        refine hK.out _ _ ⟨(fun h => Bool.noConfusion (show true = false from h)), (fun h => Bool.noConfusion (show true = false from h))⟩ (fun hHeld => ?_); clear hK K; (try simp only [Act.put, List.getElem_toArray, List.getElem_cons_zero, List.getElem_cons_succ, List.setIfInBounds_toArray, List.set_cons_zero, List.set_cons_succ])
        refine wpAnyL_done (by kernel_rfl) ?_ _; refine NoPanic.normal ?_
        have M4 := M3.setm (nextM mm x)
        have hrd4 : RdI ((w3.setCell ⟨g, 0, none⟩ (.int .i64 H)).setCell ⟨g, 1, none⟩ (.int .i64 (nextM mm x))) (.slice (some ⟨b1, o1, none⟩) L.length cl) L := rdI_block hrd3 (fun q hq => by
            have e : b1 = q := by simpa [Value.ownBlock] using hq
            subst e
            rw [Go.Deep.blk_setCell_other _ _ _ _ hb1g, Go.Deep.blk_setCell_other _ _ _ _ hb1g])
        have BR4 : Below B w ((w3.setCell ⟨g, 0, none⟩ (.int .i64 H)).setCell ⟨g, 1, none⟩ (.int .i64 (nextM mm x))) := (BR3.setCell (p := ⟨g, 0, none⟩) hBg _).setCell (p := ⟨g, 1, none⟩) hBg _
        have y4 : ((w3.setCell ⟨g, 0, none⟩ (.int .i64 H)).setCell ⟨g, 1, none⟩ (.int .i64 (nextM mm x))).cell? ⟨b1, o1 + k, none⟩ = some (.int .i64 x) := by
          rw [World.cell?_setCell_other _ _ _ _ (by intro e; exact hb1g (congrArg Addr.block e).symm), World.cell?_setCell_other _ _ _ _ (by intro e; exact hb1g (congrArg Addr.block e).symm)]; exact y3
        have hs4 : w2.heap.size ≤ ((w3.setCell ⟨g, 0, none⟩ (.int .i64 H)).setCell ⟨g, 1, none⟩ (.int .i64 (nextM mm x))).heap.size := by simpa using hs3
        clear d0 d1 f0 f1 M3 hrd3 BR3 y3 hb3 M2 hrd2 BR2 y2 cA hs3
        generalize ((w3.setCell ⟨g, 0, none⟩ (.int .i64 H)).setCell ⟨g, 1, none⟩ (.int .i64 (nextM mm x))) = w4 at *
        have M5 := M4.below ((Below.refl _ _).dr)
        have cB : w4.drew.cell? ⟨g, 2, none⟩ = some (.slice av nv cv) := M5.c2
        have y5 : w4.drew.cell? ⟨b1, o1 + k, none⟩ = some (.int .i64 x) := y4
        go_wp2_with fail
        
        refine wp_region_noPanic ?_; refine wp_region_L (S := untilL 10 9 (fun w' => w'.cell? ⟨g, 2, none⟩ = some (.slice av nv cv)) (fun w' => w'.cell? ⟨b1, o1 + k, none⟩ = some (.int .i64 x))) (by kernel_rfl) ?_
        (refine wpAnyL_take (S0 := (fun _ => True)) (i := 0) (q := 11) (v := ?lv32) rfl rfl (by kernel_rfl) (by kernel_rfl) (by kernel_rfl) (by kernel_rfl) (by kernel_rfl) (fun _ _ _ h => h) (fun _ _ _ _ => True.intro) (untilL_set (by decide) (by decide)) (Or.inl ⟨by rfl, ?lhy32⟩) ⟨fun _ => cB, fun _ => y5⟩ ?lrest32; case lhy32 => (intro w hSw; (try dsimp only at hSw); go_simp; (try with_reducible rfl)); (try simp only [Act.put, List.getElem_toArray, List.getElem_cons_zero, List.getElem_cons_succ, List.setIfInBounds_toArray, List.set_cons_zero, List.set_cons_succ])); (refine wpAnyL_take (S0 := (fun _ => True)) (i := 1) (q := 2) (v := ?lv33) rfl rfl (by kernel_rfl) (by kernel_rfl) (by kernel_rfl) (by kernel_rfl) (by kernel_rfl) (fun _ _ _ h => h) (fun _ _ _ _ => True.intro) (untilL_set (by decide) (by decide)) (Or.inl ⟨by rfl, ?lhy33⟩) ⟨fun _ => cB, fun _ => y5⟩ ?lrest33; case lhy33 => (intro w hSw; (try dsimp only at hSw); go_simp; (try with_reducible rfl)); (try simp only [Act.put, List.getElem_toArray, List.getElem_cons_zero, List.getElem_cons_succ, List.setIfInBounds_toArray, List.set_cons_zero, List.set_cons_succ])); (refine wpAnyL_take (S0 := (fun _ => True)) (i := 2) (q := 3) (v := ?lv34) rfl rfl (by kernel_rfl) (by kernel_rfl) (by kernel_rfl) (by kernel_rfl) (by kernel_rfl) (fun _ _ _ h => h) (fun _ _ _ _ => True.intro) (untilL_set (by decide) (by decide)) (Or.inl ⟨by rfl, ?lhy34⟩) ⟨fun _ => cB, fun _ => y5⟩ ?lrest34; case lhy34 => (intro w hSw; (try dsimp only at hSw); go_simp; (try with_reducible rfl)); (try simp only [Act.put, List.getElem_toArray, List.getElem_cons_zero, List.getElem_cons_succ, List.setIfInBounds_toArray, List.set_cons_zero, List.set_cons_succ])); (refine wpAnyL_take (S0 := (fun _ => True)) (i := 3) (q := 4) (v := ?lv35) rfl rfl (by kernel_rfl) (by kernel_rfl) (by kernel_rfl) (by kernel_rfl) (by kernel_rfl) (fun _ _ _ h => h) (fun _ _ _ _ => True.intro) (untilL_set (by decide) (by decide)) (Or.inl ⟨by rfl, ?lhy35⟩) ⟨fun _ => cB, fun _ => y5⟩ ?lrest35; case lhy35 => (intro w hSw; (try dsimp only at hSw); go_simp; (try with_reducible rfl)); (try simp only [Act.put, List.getElem_toArray, List.getElem_cons_zero, List.getElem_cons_succ, List.setIfInBounds_toArray, List.set_cons_zero, List.set_cons_succ])); (refine wpAnyL_take (S0 := (fun w' => w'.cell? ⟨g, 2, none⟩ = some (.slice av nv cv))) (i := 4) (q := 10) (v := ?lv36) rfl rfl (by kernel_rfl) (by kernel_rfl) (by kernel_rfl) (by kernel_rfl) (by kernel_rfl) (fun _ _ _ h => h) (fun _ _ hq hS => hS.1 hq) (untilL_set (by decide) (by decide)) (Or.inl ⟨by rfl, ?lhy36⟩) ⟨fun _ => cB, fun _ => y5⟩ ?lrest36; case lhy36 => (intro w hSw; (try dsimp only at hSw); go_simp; (try with_reducible rfl)); (try simp only [Act.put, List.getElem_toArray, List.getElem_cons_zero, List.getElem_cons_succ, List.setIfInBounds_toArray, List.set_cons_zero, List.set_cons_succ])); (refine wpAnyL_take (S0 := (fun _ => True)) (i := 5) (q := 7) (v := ?lv37) rfl rfl (by kernel_rfl) (by kernel_rfl) (by kernel_rfl) (by kernel_rfl) (by kernel_rfl) (fun _ _ _ h => h) (fun _ _ _ _ => True.intro) (untilL_set (by decide) (by decide)) (Or.inl ⟨by rfl, ?lhy37⟩) ⟨fun _ => cB, fun _ => y5⟩ ?lrest37; case lhy37 => (intro w hSw; (try dsimp only at hSw); go_simp; (try with_reducible rfl)); (try simp only [Act.put, List.getElem_toArray, List.getElem_cons_zero, List.getElem_cons_succ, List.setIfInBounds_toArray, List.set_cons_zero, List.set_cons_succ])); (refine wpAnyL_take (S0 := (fun _ => True)) (i := 6) (q := 7) (v := ?lv38) rfl rfl (by kernel_rfl) (by kernel_rfl) (by kernel_rfl) (by kernel_rfl) (by kernel_rfl) (fun _ _ _ h => h) (fun _ _ _ _ => True.intro) (untilL_set (by decide) (by decide)) (Or.inl ⟨by rfl, ?lhy38⟩) ⟨fun _ => cB, fun _ => y5⟩ ?lrest38; case lhy38 => (intro w hSw; (try dsimp only at hSw); go_simp; (try with_reducible rfl)); (try simp only [Act.put, List.getElem_toArray, List.getElem_cons_zero, List.getElem_cons_succ, List.setIfInBounds_toArray, List.set_cons_zero, List.set_cons_succ])); (refine wpAnyL_take (S0 := (fun _ => True)) (i := 7) (q := 8) (v := ?lv39) rfl rfl (by kernel_rfl) (by kernel_rfl) (by kernel_rfl) (by kernel_rfl) (by kernel_rfl) (fun _ _ _ h => h) (fun _ _ _ _ => True.intro) (untilL_set (by decide) (by decide)) (Or.inl ⟨by rfl, ?lhy39⟩) ⟨fun _ => cB, fun _ => y5⟩ ?lrest39; case lhy39 => (intro w hSw; (try dsimp only at hSw); go_simp; (try with_reducible rfl)); (try simp only [Act.put, List.getElem_toArray, List.getElem_cons_zero, List.getElem_cons_succ, List.setIfInBounds_toArray, List.set_cons_zero, List.set_cons_succ])); (refine wpAnyL_take (S0 := (fun w' => w'.cell? ⟨b1, o1 + k, none⟩ = some (.int .i64 x))) (i := 8) (q := 9) (v := ?lv40) rfl rfl (by kernel_rfl) (by kernel_rfl) (by kernel_rfl) (by kernel_rfl) (by kernel_rfl) (fun _ _ _ h => h) (fun _ _ hq hS => hS.2 hq) (untilL_set (by decide) (by decide)) (Or.inl ⟨by rfl, ?lhy40⟩) ⟨fun _ => cB, fun _ => y5⟩ ?lrest40; case lhy40 => (intro w hSw; (try dsimp only at hSw); go_simp; (try with_reducible rfl)); (try simp only [Act.put, List.getElem_toArray, List.getElem_cons_zero, List.getElem_cons_succ, List.setIfInBounds_toArray, List.set_cons_zero, List.set_cons_succ]))
        refine wpAnyL_ready (rs := [9]) (by kernel_rfl) (by simp) ?_; refine AllReadyL.cons (i := 9) rfl (fun K hK => ?_) AllReadyL.nil
        go_simp
        have hb6 : Below w4.heap.size w4 (w4.alloc (Obj.cells #[.int .i64 x] 2)).drew := ((Below.refl _ _).al _).dr
        have hblk : (w4.alloc (Obj.cells #[.int .i64 x] 2)).drew.heap[w4.heap.size]? = some (.cells #[.int .i64 x] 2 (0, 0)) := heap_alloc_new _ _
        have M6 := M4.below hb6
        have hrd6 := hrd4.below hb6
        have BR6 : Below B w (w4.alloc (Obj.cells #[.int .i64 x] 2)).drew := BR4.trans (hb6.mono (by omega))
        have hs6 : w4.heap.size ≤ (w4.alloc (Obj.cells #[.int .i64 x] 2)).drew.heap.size := hb6.size
        have cB6 : (w4.alloc (Obj.cells #[.int .i64 x] 2)).drew.cell? ⟨g, 2, none⟩ = some (.slice av nv cv) := M6.c2
        refine hK.out _ _ ⟨(fun _ => cB6), (fun h => Bool.noConfusion (show true = false from h))⟩ (fun hHeld => ?_); clear hK K; (try simp only [Act.put, List.getElem_toArray, List.getElem_cons_zero, List.getElem_cons_succ, List.setIfInBounds_toArray, List.set_cons_zero, List.set_cons_succ])
        obtain ⟨gb, hgb⟩ : ∃ gb, w4.heap.size = gb := ⟨_, rfl⟩
        rw [hgb] at hblk
        obtain ⟨w6, hw6⟩ : ∃ w6, (w4.alloc (Obj.cells #[.int .i64 x] 2)).drew = w6 := ⟨_, rfl⟩
        rw [hw6] at M6 hrd6 BR6 hs6 hblk cB6 ⊢
        clear hw6 hb6 M5 M4 hrd4 BR4 cB y5 y4
        (try rw [hgb])
        refine wpAnyL_ready (rs := [10]) (by kernel_rfl) (by simp) ?_; refine AllReadyL.cons (i := 10) rfl (fun K hK => ?_) AllReadyL.nil
        refine step_push_row (row := rowI) rfl _ _ _ _ rfl Tryz.underlying26 (.int .i64 0) 8 infoI rfl (by decide) (by decide) rowI_len B w6.heap.size gb (.slice av nv cv) ys x #[.int .i64 x] _ rfl (rowI_one _) rfl rfl hblk M6.own.ir.row hyl (by omega) ?_
        intro v' w' ho' hg' hat' hs'
        have hoi := ho'.ints.1
        obtain ⟨b5, cap5, rfl, -⟩ := OwnI.some_of hoi (by simp)
        have MP := M6.push hg' hoi hat' (Nat.le_refl _) ⟨_, _, _, rfl⟩
        have M7 := MP.setv
        have d2 : w'.cell? ⟨g, 2, none⟩ = some (.slice av nv cv) := MP.c2
        have f2 : w'.frozen? ⟨g, 2, none⟩ = false := MP.fz 2 (by omega)
        have BRs : Below B w w' := BR6.grown hg' (by omega) (fun q hq => (World.ownsRow.lt M6.own q hq).1)
        have hb5 : (∀ q, (Value.slice (some ⟨b5, 0, none⟩) (ys ++ [x]).length cap5).ownBlock = some q → q ≠ b1) := fun q hq e => by
          rcases hat' with e2 | e2
          · rw [e2, e] at hq; exact hb1v hq
          · rw [e2] at hq; simp only [Option.some.injEq] at hq; omega
        have hrd7 : RdI w' (.slice (some ⟨b1, o1, none⟩) L.length cl) L := rdI_block hrd6 (fun q hq => by
          have e : b1 = q := by simpa [Value.ownBlock] using hq
          subst e
          exact hg'.block b1 (by omega) (fun e => hb1v e.symm))
        generalize hv5 : Value.slice (some ⟨b5, 0, none⟩) (ys ++ [x]).length cap5 = v5 at *
        obtain ⟨n5, hn5⟩ : ∃ n5, (ys ++ [x]).length = n5 := ⟨_, rfl⟩
        rw [hn5] at hv5
        subst hv5
        clear hn5
        refine hK.out _ _ ⟨(fun h => Bool.noConfusion (show true = false from h)), (fun h => Bool.noConfusion (show true = false from h))⟩ (fun hHeld => ?_); clear hK K; (try simp only [Act.put, List.getElem_toArray, List.getElem_cons_zero, List.getElem_cons_succ, List.setIfInBounds_toArray, List.set_cons_zero, List.set_cons_succ])
        clear M6 BR6 hat' hoi ho' hrd6 MP hblk cB6
        (refine wpAnyL_take (S0 := (fun _ => True)) (i := 11) (q := 12) (v := ?lv41) rfl rfl (by kernel_rfl) (by kernel_rfl) (by kernel_rfl) (by kernel_rfl) (by kernel_rfl) (fun _ _ _ h => h) (fun _ _ _ _ => True.intro) (untilL_set (by decide) (by decide)) (Or.inl ⟨by rfl, ?lhy41⟩) ⟨(fun h => Bool.noConfusion (show true = false from h)), (fun h => Bool.noConfusion (show true = false from h))⟩ ?lrest41; case lhy41 => (intro w hSw; (try dsimp only at hSw); go_simp; (try with_reducible rfl)); (try simp only [Act.put, List.getElem_toArray, List.getElem_cons_zero, List.getElem_cons_succ, List.setIfInBounds_toArray, List.set_cons_zero, List.set_cons_succ])); (refine wpAnyL_take (S0 := (fun _ => True)) (i := 12) (q := 13) (v := ?lv42) rfl rfl (by kernel_rfl) (by kernel_rfl) (by kernel_rfl) (by kernel_rfl) (by kernel_rfl) (fun _ _ _ h => h) (fun _ _ _ _ => True.intro) (untilL_set (by decide) (by decide)) (Or.inl ⟨by rfl, ?lhy42⟩) ⟨(fun h => Bool.noConfusion (show true = false from h)), (fun h => Bool.noConfusion (show true = false from h))⟩ ?lrest42; case lhy42 => (intro w hSw; (try dsimp only at hSw); go_simp; (try with_reducible rfl)); (try simp only [Act.put, List.getElem_toArray, List.getElem_cons_zero, List.getElem_cons_succ, List.setIfInBounds_toArray, List.set_cons_zero, List.set_cons_succ]))
        refine wpAnyL_ready (rs := [13]) (by kernel_rfl) (by simp) ?_; refine AllReadyL.cons (i := 13) rfl (fun K hK => ?_) AllReadyL.nil
        go_simp
        refine hK.out _ _ ⟨(fun h => Bool.noConfusion (show true = false from h)), (fun h => Bool.noConfusion (show true = false from h))⟩ (fun hHeld => ?_); clear hK K; (try simp only [Act.put, List.getElem_toArray, List.getElem_cons_zero, List.getElem_cons_succ, List.setIfInBounds_toArray, List.set_cons_zero, List.set_cons_succ])
        refine wpAnyL_done (by kernel_rfl) ?_ _; refine NoPanic.normal ?_
        have hrd8 : RdI (w'.setCell ⟨g, 2, none⟩ (.slice (some ⟨b5, 0, none⟩) n5 cap5)) (.slice (some ⟨b1, o1, none⟩) L.length cl) L := rdI_block hrd7 (fun q hq => by
            have e : b1 = q := by simpa [Value.ownBlock] using hq
            subst e
            rw [Go.Deep.blk_setCell_other _ _ _ _ hb1g])
        have BR8 : Below B w (w'.setCell ⟨g, 2, none⟩ (.slice (some ⟨b5, 0, none⟩) n5 cap5)) := BRs.setCell (p := ⟨g, 2, none⟩) hBg _
        have HZ := Lib.hid (And.intro M7 (And.intro hrd8 BR8))
        clear M7 hrd8 BR8 hrd7 BRs d2 f2
        generalize (w'.setCell ⟨g, 2, none⟩ (.slice (some ⟨b5, 0, none⟩) n5 cap5)) = wz at *
        go_wp2
        go_roundw
        case rel => exact ⟨k + 1, by omega, by go_num, HA2, _, by rw [HRSk.out]; exact HZ.out.1, HZ.out.2.1, fun q hq => by
          have e : b1 = q := by simpa [Value.ownBlock] using hq
          subst e
          exact ⟨hb1g, fun h => hb5 b1 h rfl⟩, HZ.out.2.2⟩
        case measure => simp [intOf]; omega
    · obtain rfl : k = L.length := by omega
      have HT := Lib.hid (HRY.out HA.out)
      go_wp2
      go_ret
      exact ⟨by rw [HT.out]; rfl, BR, fun _ => ⟨v, M, hrd, hsp⟩⟩
end Go.Proofs.YtioemkdapoombaaGreatDoor
end
section
namespace Go.Proofs.YtioemkdapoombaaGreatDoor
open Go.ChangeShapes Go.WideShapes Go.ChangeAt Go.RowKit
set_option linter.unusedSimpArgs false
set_option linter.unusedVariables false
theorem run_iff {h m : Int} {L : List Int} : runOk h m L = true ↔ ∀ i, i < L.length → canAt h m L i = true := ⟨runN_all, run_yes⟩
theorem runM_app (m : Int) (A C : List Int) (k : Nat) : runM m (A ++ C) (A.length + k) = runM (runM m A A.length) C k := by
  unfold runM
  rw [List.take_length_add_append, List.foldl_append, List.take_length]
theorem runM_pre (m : Int) (A C : List Int) (k : Nat) (hk : k ≤ A.length) : runM m (A ++ C) k = runM m A k := by
  unfold runM
  rw [List.take_append_of_le_length hk]
theorem can_pre {h m : Int} {A C : List Int} {i : Nat} (hi : i < A.length) : canAt h m (A ++ C) i = canAt h m A i := by
  unfold canAt
  rw [runM_pre m A C i (by omega)]
  congr 1
  show (A ++ C)[i]?.getD 0 = A[i]?.getD 0
  rw [List.getElem?_append_left hi]
theorem can_app {h m : Int} {A C : List Int} {i : Nat} : canAt h m (A ++ C) (A.length + i) = canAt h (runM m A A.length) C i := by
  unfold canAt
  rw [runM_app]
  congr 1
  show (A ++ C)[A.length + i]?.getD 0 = C[i]?.getD 0
  rw [List.getElem?_append_right (by omega), show A.length + i - A.length = i by omega]
theorem run_app (h m : Int) (A C : List Int) : runOk h m (A ++ C) = (runOk h m A && runOk h (runM m A A.length) C) := by
  rw [Bool.eq_iff_iff, Bool.and_eq_true, run_iff, run_iff, run_iff]
  constructor
  · intro H
    refine ⟨fun i hi => ?_, fun i hi => ?_⟩
    · have := H i (by rw [List.length_append]; omega)
      rwa [can_pre hi] at this
    · have := H (A.length + i) (by rw [List.length_append]; omega)
      rwa [can_app] at this
  · rintro ⟨h1, h2⟩ i hi
    by_cases hA : i < A.length
    · rw [can_pre hA]; exact h1 i hA
    · rw [List.length_append] at hi
      have := h2 (i - A.length) (by omega)
      rw [← can_app (A := A), show A.length + (i - A.length) = i by omega] at this
      exact this
def Rc.add (R : Rc) (L : List Int) : Rc := ⟨R.h, runM R.m L L.length, R.xs ++ L, R.e⟩
theorem Rc.run_len (R : Rc) (L : List Int) : R.run L L.length = R.add L := by unfold Rc.run Rc.add; rw [List.take_length]
theorem Rc.add_app (R : Rc) (A C : List Int) : (R.add A).add C = R.add (A ++ C) := by
  unfold Rc.add
  rw [List.length_append, runM_app, List.append_assoc]
theorem Rc.add_nil (R : Rc) : R.add [] = R := by unfold Rc.add; simp [runM]
theorem run_valid {R : Rc} {L : List Int} (hv : validB R.h R.m = true) (hr : runOk R.h R.m L = true) : validB (R.add L).h (R.add L).m = true := by
  have h1 := run_bd hv L.length (Nat.le_refl _) (run_iff.1 hr)
  have h2 := (validB_iff.1 hv).1
  exact validB_iff.2 ⟨h2, by show 0 ≤ runM R.m L L.length ∧ runM R.m L L.length ≤ 2 ^ R.h.toNat - 1; omega⟩
/-- the throws of a pattern some times -/
def makeF (R : Rc) (L : List Int) : Int × Rc := bif runOk R.h R.m L then (0, R.add L) else (3, R)
def patF (R : Rc) (a b : ByteArray) : Int × Rc :=
  bif okDig a && (numOk b && inB (numN b) 1 20) then (bif validP (digsTo a a.size) then makeF R (repL (digsTo a a.size) (numN b).toNat) else (5, R)) else (2, R)
def patW (R : Rc) (ws : List ByteArray) : Int × Rc := match ws with
  | [a, b] => patF R a b
  | _ => (2, R)
def LnP (o : Nat) (st : StK) (B g : Nat) (F : Int × Rc) (w0 : World) (e : Ending) (w' : World) : Prop := e = .returned (.int .i64 F.1) ∧ Below B w0 w' ∧ (F.1 = 0 → ∃ v', RecM o st B g w' F.2 v' v')
theorem patF_form {R : Rc} {a b : ByteArray} (h : (okDig a && (numOk b && inB (numN b) 1 20)) = false) : patF R a b = (2, R) := by unfold patF; rw [h]; rfl
theorem patF_pat {R : Rc} {a b : ByteArray} (h : (okDig a && (numOk b && inB (numN b) 1 20)) = true) (hp : validP (digsTo a a.size) = false) : patF R a b = (5, R) := by unfold patF; rw [h, hp]; rfl
theorem patF_mk {R : Rc} {a b : ByteArray} (h : (okDig a && (numOk b && inB (numN b) 1 20)) = true) (hp : validP (digsTo a a.size) = true) : patF R a b = makeF R (repL (digsTo a a.size) (numN b).toNat) := by unfold patF; rw [h, hp]; rfl
set_option maxHeartbeats 8000000 in
set_option maxRecDepth 100000 in
theorem c_impl_record_pattern (st : StK) (B g : Nat) (R : Rc) (a b : ByteArray) (v0 : Value) (w : World) (h : RecM 2 st B g w R v0 v0) (hv : validB R.h R.m = true) (ha : a.size ≤ 10000000) (hbz : b.size ≤ 10000000) (hxl : R.xs.length ≤ 100000000) (hBw : B ≤ w.heap.size) (ht : Tab w) :
    Calls Tryz.prog 106 #[.pointer (some ⟨g, 0, none⟩), .string a, .string b] w fun e w' => LnP 2 st B g (patF R a b) w e w' := by
  have HM := Lib.hid h
  have HV := Lib.hid hv
  have HT := Lib.hid ht
  have HF := Lib.hid (fun h => patF_form (R := R) (a := a) (b := b) h)
  have HG := Lib.hid (fun h h2 => patF_pat (R := R) (a := a) (b := b) h h2)
  have HK := Lib.hid (fun h h2 => patF_mk (R := R) (a := a) (b := b) h h2)
  clear h hv ht
  obtain ⟨F, hF⟩ : ∃ F, Hid (patF R a b = F) := ⟨_, Lib.hid rfl⟩
  rw [hF.out] at HF HG HK ⊢
  clear hF
  go_enter Tryz.func106, Tryz.ntmps106
  go_wp2_with fail
  refine (c_impl_ReadDecimal b _ (by omega) HT.out).mono ?_; rintro e w1 ⟨rfl, hb1⟩
  have M1 := Lib.hid (HM.out.below hb1)
  have hs1 := hb1.size
  have B1 : Below B w w1 := hb1.mono hBw
  go_wp2_with fail
  refine (c_impl_isDigits a _ (by omega)).mono ?_; rintro e w2 ⟨rfl, rfl⟩
  cases hd : okDig a
  · have HE := Lib.hid (HF.out (by rw [hd]; rfl))
    go_wp2
    go_ret
    exact ⟨by rw [HE.out]; rfl, B1, by rw [HE.out]; intro h; cases h⟩
  · cases hn : numOk b
    · have HE := Lib.hid (HF.out (by rw [hd, hn]; rfl))
      go_wp2
      go_ret
      exact ⟨by rw [HE.out]; rfl, B1, by rw [HE.out]; intro h; cases h⟩
    · have hal := okDig_len hd
      have HAB := Lib.hid (okDig_bd hd)
      obtain ⟨n, Hn⟩ : ∃ n, Hid (numN b = n) := ⟨_, Lib.hid rfl⟩
      simp only [cond_true]
      rw [Hn.out] at HK ⊢
      go_wp2_with fail
      refine (c_impl_between n 1 20 _).mono ?_; rintro e w2 ⟨rfl, rfl⟩
      cases hin : inB n 1 20
      · have HE := Lib.hid (HF.out (by rw [hd, hn, Hn.out, hin]; rfl))
        go_wp2
        go_ret
        exact ⟨by rw [HE.out]; rfl, B1, by rw [HE.out]; intro h; cases h⟩
      · have hib := inB_iff.1 hin
        have HC : Hid ((okDig a && (numOk b && inB (numN b) 1 20)) = true) := by unfold Hid; rw [hd, hn, Hn.out, hin]; rfl
        obtain ⟨N, rfl⟩ : ∃ N : Nat, n = (N : Int) := ⟨n.toNat, by omega⟩
        have HPL : Hid ((digsTo a a.size).length = a.size) := digsTo_len a a.size
        go_wp2_with fail
        refine (c_impl_ReadPattern a _ (by omega)).mono ?_; rintro e w3 ⟨vp, rfl, hop, hb3⟩
        have M3 := Lib.hid (M1.out.below hb3)
        have hs3 := hb3.size
        have B3 : Below B w w3 := B1.trans (hb3.mono (by omega))
        obtain ⟨p, Hp⟩ : ∃ p, Hid (digsTo a a.size = p) := ⟨_, Lib.hid rfl⟩
        rw [Hp.out] at HG HK hop HPL HAB ⊢
        cases hvp : validP p
        · have HE := Lib.hid (HG.out HC.out hvp)
          go_wp2
          go_ret
          exact ⟨by rw [HE.out]; rfl, B3, by rw [HE.out]; intro h; cases h⟩
        · have HE := Lib.hid (HK.out (by rw [hd, hn, hin]; rfl) hvp)
          have hrp := (hop hvp).rd
          clear hop
          rw [Int.toNat_natCast] at HE
          go_wp2_with fail
          refine (c_impl_repeated p N _ _ hrp (by rw [HPL.out]; omega) (by omega)).mono ?_; rintro e w4 ⟨u, rfl, hou, hb4⟩
          have M4 := M3.out.below hb4
          have hs4 := hb4.size
          have B4 : Below B w w4 := B3.trans (hb4.mono (by omega))
          have hrl : (repL p N).length ≤ 1000 := by
            rw [repL_len, HPL.out]
            have : N * a.size ≤ 20 * 12 := Nat.mul_le_mul (by omega) (by omega)
            omega
          have hsp : ∀ q, u.ownBlock = some q → q ≠ g ∧ v0.ownBlock ≠ some q := fun q hq => by
            have h1 := (World.ownsRow.lt hou q hq).1
            have h2 := M3.out.hg
            exact ⟨by omega, fun e => by have := (World.ownsRow.lt M3.out.own q e).2; omega⟩
          obtain ⟨Q, HQ⟩ : ∃ Q, Hid (repL p N = Q) := ⟨_, Lib.hid rfl⟩
          rw [HQ.out] at hrl hou HE
          go_wp2_with fail
          refine (c_impl_record_make st B g R Q v0 u _ M4 HV.out hou.rd hsp (by omega) (by omega) (by omega)).mono ?_; rintro e w5 ⟨rfl, hb5, hm5⟩
          have B5 := B4.trans hb5
          cases hr : runOk R.h R.m Q
          · have HZ : Hid (F = (3, R)) := by unfold Hid; rw [HE.out]; unfold makeF; rw [hr]; rfl
            go_wp2
            go_ret
            exact ⟨by rw [HZ.out]; rfl, B5, by rw [HZ.out]; intro h; cases h⟩
          · have HZ : Hid (F = (0, R.add Q)) := by unfold Hid; rw [HE.out]; unfold makeF; rw [hr]; rfl
            obtain ⟨v5, M5, -, -⟩ := hm5 hr
            rw [Rc.run_len] at M5
            go_wp2
            go_ret
            exact ⟨by rw [HZ.out]; rfl, B5, fun _ => ⟨v5, by rw [HZ.out]; exact M5⟩⟩
theorem okThr_len {p : List Int} (h : validP p = true) : p.length ≤ 12 := by
  unfold validP at h
  rw [Bool.and_eq_true] at h
  exact (okThrows_iff.1 h.1).2.2
theorem not_okDig {a : ByteArray} (h : 12 < a.size) : okDig a = false := by
  rw [okDig_digB, decide_eq_false (by omega), Bool.and_false]
theorem okDig_of {a : ByteArray} (h : ¬ 12 < a.size) : okDig a = digB a := by
  rw [okDig_digB, decide_eq_true (by omega), Bool.and_true]
theorem patW_not {R : Rc} {ws : List ByteArray} (h : ws.length ≠ 2) : patW R ws = (2, R) := by
  unfold patW
  split
  · simp at h
  · rfl
theorem rep_pre {R : Rc} {p : List Int} {k N : Nat} (hk : k < N) (h : runOk R.h R.m (repL p k) = true) (hno : runOk (R.add (repL p k)).h (R.add (repL p k)).m p = false) : runOk R.h R.m (repL p N) = false := by
  have key : ∀ d, runOk R.h R.m (repL p (k + 1 + d)) = false := by
    intro d
    induction d with
    | zero =>
      show runOk R.h R.m (repL p (k + 1)) = false
      rw [repL_succ, run_app, h]
      exact hno
    | succ d ih =>
      show runOk R.h R.m (repL p (k + 1 + d + 1)) = false
      rw [repL_succ, run_app, ih]; rfl
  have := key (N - (k + 1))
  rwa [show k + 1 + (N - (k + 1)) = N by omega] at this
theorem rep_next {R : Rc} {p : List Int} {k : Nat} (h : runOk R.h R.m (repL p k) = true) (hy : runOk (R.add (repL p k)).h (R.add (repL p k)).m p = true) : runOk R.h R.m (repL p (k + 1)) = true := by
  rw [repL_succ, run_app, h]
  exact hy
theorem rep_add (R : Rc) (p : List Int) (k : Nat) : (R.add (repL p k)).add p = R.add (repL p (k + 1)) := by rw [Rc.add_app, ← repL_succ]
set_option maxHeartbeats 16000000 in
set_option maxRecDepth 100000 in
theorem c_spec_l27R_pattern (st : StK) (B g : Nat) (R : Rc) (s : ByteArray) (v0 : Value) (w : World) (h : RecM 0 st B g w R v0 v0) (hv : validB R.h R.m = true) (hsz : s.size ≤ 10000000) (hxl : R.xs.length ≤ 100000000) (hBw : B ≤ w.heap.size) :
    Calls Tryz.prog 125 #[.pointer (some ⟨g, 0, none⟩), .string s] w fun e w' => LnP 0 st B g (patW R (words s)) w e w' := by
  have HM := Lib.hid h
  have HV := Lib.hid hv
  have HWI := Lib.hid (words_in (s := s))
  clear h hv
  obtain ⟨X, hX⟩ : ∃ X, Hid (words s = X) := ⟨_, Lib.hid rfl⟩
  rw [hX.out] at HWI ⊢
  go_enter Tryz.func125, Tryz.ntmps125
  go_wp2_with fail
  refine (c_spec_l01Split s _ (by omega)).mono ?_; rintro e w1 ⟨u, rfl, hou, hb1⟩
  rw [hX.out] at hou
  clear hX
  have M1 := Lib.hid (HM.out.below hb1)
  have hs1 := hb1.size
  have B1 : Below B w w1 := hb1.mono hBw
  have hro := hou.rd rowT_len
  obtain ⟨au, cu, rfl, hru1, hru2⟩ := id hro
  by_cases h2 : X.length = 2
  · obtain ⟨a, b, rfl⟩ : ∃ a b, X = [a, b] := by
      match X, h2 with
      | [a, b], _ => exact ⟨a, b, rfl⟩
    have haz : a.size ≤ s.size := HWI.out a (by simp)
    have hbz : b.size ≤ s.size := HWI.out b (by simp)
    obtain ⟨bw, ow, rfl, y0⟩ := rdT_at hro 0 (by simp)
    obtain ⟨bw', ow', he', y1⟩ := rdT_at hro 1 (by simp)
    cases he'
    have y0 : w1.cell? ⟨bw, ow, none⟩ = some (.string a) := y0
    have y1 : w1.cell? ⟨bw, ow + 1, none⟩ = some (.string b) := y1
    have HF := Lib.hid (fun h => patF_form (R := R) (a := a) (b := b) h)
    have HG := Lib.hid (fun h h2 => patF_pat (R := R) (a := a) (b := b) h h2)
    have HK := Lib.hid (fun h h2 => patF_mk (R := R) (a := a) (b := b) h h2)
    have HNO := Lib.hid (fun h => not_okDig (a := a) h)
    have HOF := Lib.hid (fun h => okDig_of (a := a) h)
    obtain ⟨F, hF⟩ : ∃ F, Hid (patF R a b = F) := ⟨_, Lib.hid rfl⟩
    have hFW : Hid (patW R [a, b] = F) := hF.out
    rw [hF.out] at HF HG HK
    clear hF
    have hlen2 : ([a, b] : List ByteArray).length = 2 := rfl
    rw [hlen2] at hro hru1 ⊢
    by_cases h12 : 12 < a.size
    · have HE := Lib.hid (HF.out (by rw [HNO.out h12]; rfl))
      have h12I : (12 : Int) < (a.size : Int) := by omega
      go_wp2
      go_ret
      exact ⟨by rw [hFW.out, HE.out]; rfl, B1, by rw [hFW.out, HE.out]; intro h; cases h⟩
    · have HOD := Lib.hid (HOF.out h12)
      have h12I : ¬ (12 : Int) < (a.size : Int) := by omega
      go_wp2_with fail
      refine (c_spec_l27R_digits a _ _ (by omega)).mono ?_; rintro e w2 ⟨vp, rfl, hop, hb2⟩
      have M2 := Lib.hid (M1.out.below hb2)
      have hs2 := hb2.size
      have B2 : Below B w w2 := B1.trans (hb2.mono (by omega))
      have y1 := keepc hb2 y1
      go_wp2_with fail
      refine (c_spec_l01Number b _ (by omega)).mono ?_; rintro e w3 ⟨rfl, hb3⟩
      have M3 := Lib.hid (M2.out.below hb3)
      have hs3 := hb3.size
      have B3 : Below B w w3 := B2.trans (hb3.mono (by omega))
      have hop3 : digB a = true → OwnI1 w1.heap.size w3 vp (digsTo a a.size) := fun h => OwnI.below (hop h) hb3
      clear hop
      cases hd : digB a
      · have HE := Lib.hid (HF.out (by rw [HOD.out, hd]; rfl))
        go_wp2
        go_ret
        exact ⟨by rw [hFW.out, HE.out]; rfl, B3, by rw [hFW.out, HE.out]; intro h; cases h⟩
      · cases hn : numOk b
        · have HE := Lib.hid (HF.out (by rw [HOD.out, hd, hn]; rfl))
          go_wp2
          go_ret
          exact ⟨by rw [hFW.out, HE.out]; rfl, B3, by rw [hFW.out, HE.out]; intro h; cases h⟩
        · have HAB := Lib.hid (okDig_bd (s := a) (by rw [HOD.out, hd]))
          obtain ⟨n, Hn⟩ : ∃ n, Hid (numN b = n) := ⟨_, Lib.hid rfl⟩
          simp only [cond_true]
          rw [Hn.out] at HK ⊢
          go_wp2_with fail
          refine (c_spec_l00In n 1 20 _).mono ?_; rintro e w4 ⟨rfl, rfl⟩
          cases hin : inB n 1 20
          · have HE := Lib.hid (HF.out (by rw [HOD.out, hd, hn, Hn.out, hin]; rfl))
            go_wp2
            go_ret
            exact ⟨by rw [hFW.out, HE.out]; rfl, B3, by rw [hFW.out, HE.out]; intro h; cases h⟩
          · have hib := inB_iff.1 hin
            have HC : Hid ((okDig a && (numOk b && inB (numN b) 1 20)) = true) := by unfold Hid; rw [HOD.out, hd, hn, Hn.out, hin]; rfl
            have HC2 : Hid ((okDig a && (numOk b && inB n 1 20)) = true) := by unfold Hid; rw [HOD.out, hd, hn, hin]; rfl
            obtain ⟨N, rfl⟩ : ∃ N : Nat, n = (N : Int) := ⟨n.toNat, by omega⟩
            have hou3 := hop3 hd
            clear hop3
            obtain ⟨p, Hp⟩ : ∃ p, Hid (digsTo a a.size = p) := ⟨_, Lib.hid rfl⟩
            rw [Hp.out] at HG HK hou3 HAB
            go_wp2_with fail
            refine (c_spec_l02Ok p _ _ hou3.rd).mono ?_; rintro e w4 ⟨rfl, hb4⟩
            have M4 := Lib.hid (M3.out.below hb4)
            have hs4 := hb4.size
            have B4 : Below B w w4 := B3.trans (hb4.mono (by omega))
            cases hvp : validP p
            · have HE := Lib.hid (HG.out HC.out hvp)
              go_wp2
              go_ret
              exact ⟨by rw [hFW.out, HE.out]; rfl, B4, by rw [hFW.out, HE.out]; intro h; cases h⟩
            · have HE := Lib.hid (HK.out HC2.out hvp)
              have hpl := okThr_len hvp
              rw [Int.toNat_natCast] at HE
              have hrp := hou3.rd.below hb4
              have hsp : ∀ q, vp.ownBlock = some q → q ≠ g ∧ v0.ownBlock ≠ some q := fun q hq => by
                have h1 := (World.ownsRow.lt hou3 q hq).1
                have h2 := M1.out.hg
                exact ⟨by omega, fun e => by have := (World.ownsRow.lt M1.out.own q e).2; omega⟩
              have HRP := Lib.hid hrp
              have HSP := Lib.hid hsp
              clear hrp hsp hou3 y0 y1 hru2 hro
              go_wp2
              go_loopw [10] (fun i wr => ∃ k : Nat, k ≤ N ∧ i = .int .i64 k ∧ Hid (runOk R.h R.m (repL p k) = true) ∧ ∃ v, RecM 0 st B g wr (R.add (repL p k)) v v ∧ RdI wr vp p ∧ (∀ q, vp.ownBlock = some q → q ≠ g ∧ v.ownBlock ≠ some q) ∧ Below B w wr) (fun i _ => N - (intOf i).toNat)
              case atStart => exact ⟨0, by omega, rfl, run_yes (fun i hi => by simp [repL] at hi), v0, by rw [show repL p 0 = [] from rfl, Rc.add_nil]; exact M4.out, HRP.out, HSP.out, B4⟩
              case round =>
                obtain ⟨k, hk, rfl, HR, v, M, hrd, hsp, BR⟩ := hrel
                have hbs := BR.size
                by_cases hlt : k < N
                · have HVk := Lib.hid (run_valid HV.out HR.out)
                  have HPR := Lib.hid (fun h => rep_pre (R := R) (p := p) (k := k) (N := N) hlt HR.out h)
                  have HNX := Lib.hid (fun h => rep_next (R := R) (p := p) (k := k) HR.out h)
                  have HAD := Lib.hid (rep_add R p k)
                  have hxk : (R.add (repL p k)).xs.length ≤ 100000000 + 1000 := by
                    show (R.xs ++ repL p k).length ≤ _
                    rw [List.length_append, repL_len]
                    have : k * p.length ≤ 20 * 12 := Nat.mul_le_mul (by omega) hpl
                    omega
                  obtain ⟨S, HS⟩ : ∃ S, Hid (R.add (repL p k) = S) := ⟨_, Lib.hid rfl⟩
                  rw [HS.out] at HVk HPR HNX HAD hxk M
                  go_wp2_with fail
                  refine (c_spec_l27R_make st B g S p v vp _ M HVk.out hrd hsp (by omega) (by omega) (by omega)).mono ?_; rintro e w5 ⟨rfl, hb5, hm5⟩
                  have B5 := BR.trans hb5
                  cases hr : runOk S.h S.m p
                  · have HZ : Hid (F = (3, R)) := by unfold Hid; rw [HE.out]; unfold makeF; rw [HPR.out hr]; rfl
                    go_wp2
                    go_ret
                    exact ⟨by rw [hFW.out, HZ.out]; rfl, B5, by rw [hFW.out, HZ.out]; intro h; cases h⟩
                  · obtain ⟨v5, M5, hrd5, hsp5⟩ := hm5 hr
                    rw [Rc.run_len, HAD.out] at M5
                    have HR2 := Lib.hid (HNX.out hr)
                    clear hm5
                    go_wp2
                    go_roundw
                    case rel => exact ⟨k + 1, by omega, by go_num, HR2.out, v5, M5, hrd5, hsp5, B5⟩
                    case measure => simp [intOf]; omega
                · obtain rfl : k = N := by omega
                  have HZ : Hid (F = (0, R.add (repL p k))) := by unfold Hid; rw [HE.out]; unfold makeF; rw [HR.out]; rfl
                  have hkn : ¬ (k : Int) < (k : Int) := by omega
                  go_wp2
                  go_ret
                  exact ⟨by rw [hFW.out, HZ.out]; rfl, BR, fun _ => ⟨v, by rw [hFW.out, HZ.out]; exact M⟩⟩
  · have HE := Lib.hid (patW_not (R := R) h2)
    have h2I : (X.length : Int) ≠ 2 := by omega
    have h2B : ((X.length : Int) == 2) = false := beq_eq_false_iff_ne.2 h2I
    go_wp2
    go_ret
    exact ⟨by rw [HE.out]; rfl, B1, by rw [HE.out]; intro h; cases h⟩
end Go.Proofs.YtioemkdapoombaaGreatDoor
end
section
namespace Go.Proofs.YtioemkdapoombaaGreatDoor
open Go.ChangeShapes Go.WideShapes Go.ChangeAt Go.RowKit
set_option linter.unusedSimpArgs false
set_option linter.unusedVariables false
def thrW : List UInt8 := [116, 104, 114, 111, 119]
def chkW : List UInt8 := [99, 104, 101, 99, 107]
def patT : List UInt8 := [112, 97, 116, 116, 101, 114, 110]
def checkF (R : Rc) (b : ByteArray) : Int × Rc := bif rsB b then (bif decide ((b.size : Int) = R.h) && decide (rsM b b.size = R.m) then (0, R) else (4, R)) else (2, R)
def lineW (R : Rc) (ws : List ByteArray) : Int × Rc := match ws with
  | [a, b] => bif bl a == thrW then (bif okDig b then makeF R (digsTo b b.size) else (2, R)) else (bif bl a == chkW then checkF R b else (2, R))
  | [a, b, c] => bif bl a == patT then patF R b c else (2, R)
  | _ => (2, R)
def lineF (R : Rc) (s : ByteArray) : Int × Rc :=
  bif R.e then (6, R) else (bif s.toList == [101, 110, 100] then (0, ⟨R.h, R.m, R.xs, true⟩) else lineW R (words s))
theorem tl_bl (a : ByteArray) : a.toList = bl a := ByteArray.toList_eq ..
theorem dig_blank {s x y : ByteArray} {ws : List ByteArray} (h : words s = x :: y :: ws) : okDig s = false := by
  obtain ⟨j, hj, hc⟩ := words_blank h
  exact ok_bad hj (by rw [hc]; decide)
theorem rs_blank {s x y : ByteArray} {ws : List ByteArray} (h : words s = x :: y :: ws) : rsB s = false := by
  obtain ⟨j, hj, hc⟩ := words_blank h
  unfold rsB
  rw [rsA_no hj (by rw [hc]; decide) (by rw [hc]; decide), Bool.and_false]
theorem line_thr {R : Rc} {s t p : ByteArray} (hp : bl p = thrW) (h : words s = p :: words t) : lineW R (words s) = bif okDig t then makeF R (digsTo t t.size) else (2, R) := by
  rcases hw : words t with _ | ⟨x, _ | ⟨y, _ | ⟨z, zs⟩⟩⟩
  · exact absurd hw (words_ne t)
  · rw [h, hw, words_one hw]
    show (bif bl p == thrW then _ else _) = _
    rw [hp]; rfl
  · rw [h, hw, dig_blank hw]
    show (bif bl p == patT then _ else _) = _
    rw [hp]; rfl
  · rw [h, hw, dig_blank hw]; rfl
theorem line_chk {R : Rc} {s t p : ByteArray} (hp : bl p = chkW) (h : words s = p :: words t) : lineW R (words s) = checkF R t := by
  rcases hw : words t with _ | ⟨x, _ | ⟨y, _ | ⟨z, zs⟩⟩⟩
  · exact absurd hw (words_ne t)
  · rw [h, hw, words_one hw]
    show (bif bl p == thrW then _ else (bif bl p == chkW then _ else _)) = _
    rw [hp]; rfl
  · have : checkF R t = (2, R) := by unfold checkF; rw [rs_blank hw]; rfl
    rw [h, hw, this]
    show (bif bl p == patT then _ else _) = _
    rw [hp]; rfl
  · have : checkF R t = (2, R) := by unfold checkF; rw [rs_blank hw]; rfl
    rw [h, hw, this]; rfl
theorem line_pat {R : Rc} {s t p : ByteArray} (hp : bl p = patT) (h : words s = p :: words t) : lineW R (words s) = patW R (words t) := by
  rcases hw : words t with _ | ⟨x, _ | ⟨y, _ | ⟨z, zs⟩⟩⟩
  · exact absurd hw (words_ne t)
  · rw [h, hw]
    show (bif bl p == thrW then _ else (bif bl p == chkW then _ else _)) = _
    rw [hp]; rfl
  · rw [h, hw]
    show (bif bl p == patT then _ else _) = _
    rw [hp]; rfl
  · rw [h, hw]; rfl
theorem line_none {R : Rc} {s p q r : ByteArray} (hp : bl p = thrW) (hq : bl q = chkW) (hr : bl r = patT) (h1 : ∀ x ws, words s ≠ p :: x :: ws) (h2 : ∀ x ws, words s ≠ q :: x :: ws) (h3 : ∀ x ws, words s ≠ r :: x :: ws) : lineW R (words s) = (2, R) := by
  rcases hw : words s with _ | ⟨x, _ | ⟨y, _ | ⟨z, _ | ⟨zz, zs⟩⟩⟩⟩
  · rfl
  · rfl
  · have e1 : (bl x == thrW) = false := beq_eq_false_iff_ne.2 (fun e => h1 y [] (by rw [hw, bl_inj (e.trans hp.symm)]))
    have e2 : (bl x == chkW) = false := beq_eq_false_iff_ne.2 (fun e => h2 y [] (by rw [hw, bl_inj (e.trans hq.symm)]))
    show (bif bl x == thrW then _ else (bif bl x == chkW then _ else _)) = _
    rw [e1, e2]; rfl
  · have e3 : (bl x == patT) = false := beq_eq_false_iff_ne.2 (fun e => h3 y [z] (by rw [hw, bl_inj (e.trans hr.symm)]))
    show (bif bl x == patT then _ else _) = _
    rw [e3]; rfl
  · rfl
theorem line_e {R : Rc} {s : ByteArray} (h : R.e = true) : lineF R s = (6, R) := by unfold lineF; rw [h]; rfl
theorem line_end {R : Rc} {s : ByteArray} (h : R.e = false) (h2 : (s.toList == [101, 110, 100]) = true) : lineF R s = (0, ⟨R.h, R.m, R.xs, true⟩) := by unfold lineF; rw [h, h2]; rfl
theorem line_w {R : Rc} {s : ByteArray} (h : R.e = false) (h2 : (s.toList == [101, 110, 100]) = false) : lineF R s = lineW R (words s) := by unfold lineF; rw [h, h2]; rfl
set_option maxHeartbeats 16000000 in
set_option maxRecDepth 100000 in
theorem c_spec_l27R_line (st : StK) (B g : Nat) (R : Rc) (s : ByteArray) (v0 : Value) (w : World) (h : RecM 0 st B g w R v0 v0) (hv : validB R.h R.m = true) (hsz : s.size ≤ 2000000) (hxl : R.xs.length ≤ 100000000) (hBw : B ≤ w.heap.size) :
    Calls Tryz.prog 100 #[.pointer (some ⟨g, 0, none⟩), .string s] w fun e w' => LnP 0 st B g (lineF R s) w e w' := by
  have HM := Lib.hid h
  have HV := Lib.hid hv
  have HLE := Lib.hid (fun h => line_e (R := R) (s := s) h)
  have HLD := Lib.hid (fun h h2 => line_end (R := R) (s := s) h h2)
  have HLW := Lib.hid (fun h h2 => line_w (R := R) (s := s) h h2)
  have HTH := Lib.hid (fun t p hp h => line_thr (R := R) (s := s) (t := t) (p := p) hp h)
  have HCH := Lib.hid (fun t p hp h => line_chk (R := R) (s := s) (t := t) (p := p) hp h)
  have HPA := Lib.hid (fun t p hp h => line_pat (R := R) (s := s) (t := t) (p := p) hp h)
  have HNO := Lib.hid (fun p q r hp hq hr h1 h2 h3 => line_none (R := R) (s := s) (p := p) (q := q) (r := r) hp hq hr h1 h2 h3)
  have hgw := h.hg
  have hBg := h.hB
  have c2 : w.cell? ⟨g, 3, none⟩ = some (.bool R.e) := h.c3
  have f2 : w.frozen? ⟨g, 3, none⟩ = false := h.fz 3 (by omega)
  have HSE : Hid (RecM 0 st B g (w.setCell ⟨g, 3, none⟩ (.bool true)) ⟨R.h, R.m, R.xs, true⟩ v0 v0) := h.sete true
  clear h hv
  obtain ⟨F, hF⟩ : ∃ F, Hid (lineF R s = F) := ⟨_, Lib.hid rfl⟩
  rw [hF.out] at HLE HLD HLW ⊢
  clear hF
  obtain ⟨G, hG⟩ : ∃ G, Hid (lineW R (words s) = G) := ⟨_, Lib.hid rfl⟩
  rw [hG.out] at HLW HTH HCH HPA HNO
  clear hG
  obtain ⟨E, hE⟩ : ∃ E, Hid (R.e = E) := ⟨_, Lib.hid rfl⟩
  rw [hE.out] at HLE HLD HLW c2
  go_enter Tryz.func100, Tryz.ntmps100
  cases E
  · cases hend : (s.toList == [101, 110, 100])
    · have HW := Lib.hid (HLW.out rfl hend)
      go_wp2_with fail
      refine (c_spec_l27After s ⟨#[116, 104, 114, 111, 119]⟩ _ (by omega) (by decide) (by decide)).mono ?_; rintro e w1 ⟨t, b, rfl, hy, hn, rfl⟩
      cases b
      · obtain ⟨rfl, hn1⟩ := hn rfl
        have HN1 := Lib.hid hn1
        clear hy hn hn1
        go_wp2_with fail
        refine (c_spec_l27After s ⟨#[99, 104, 101, 99, 107]⟩ _ (by omega) (by decide) (by decide)).mono ?_; rintro e w1 ⟨t, b, rfl, hy, hn, rfl⟩
        cases b
        · obtain ⟨rfl, hn2⟩ := hn rfl
          have HN2 := Lib.hid hn2
          clear hy hn hn2
          go_wp2_with fail
          refine (c_spec_l27After s ⟨#[112, 97, 116, 116, 101, 114, 110]⟩ _ (by omega) (by decide) (by decide)).mono ?_; rintro e w1 ⟨t, b, rfl, hy, hn, rfl⟩
          cases b
          · obtain ⟨rfl, hn3⟩ := hn rfl
            have HE := Lib.hid (HW.out.trans (HNO.out _ _ _ rfl rfl rfl HN1.out HN2.out hn3))
            clear hy hn hn3
            go_wp2
            go_ret
            exact ⟨by rw [HE.out]; rfl, Below.refl _ _, by rw [HE.out]; intro h; cases h⟩
          · obtain ⟨hy1, hts⟩ := hy rfl
            have HE := Lib.hid (HW.out.trans (HPA.out t _ rfl hy1))
            clear hy hn hy1
            go_wp2_with fail
            refine (c_spec_l27R_pattern st B g R t v0 _ HM.out HV.out (by omega) hxl hBw).mono ?_; rintro e w5 ⟨rfl, hb5, hm5⟩
            rw [← HE.out] at hm5 ⊢
            go_wp2
            go_ret
            exact ⟨rfl, hb5, hm5⟩
        · obtain ⟨hy1, hts⟩ := hy rfl
          have HE := Lib.hid (HW.out.trans (HCH.out t _ rfl hy1))
          clear hy hn hy1
          have HRB := Lib.hid (fun h : rsB t = false => (show checkF R t = (2, R) by unfold checkF; rw [h]; rfl))
          go_wp2_with fail
          refine (c_spec_ReadState t _ (by omega)).mono ?_; rintro e w2 ⟨rfl, hb2⟩
          have M2 := HM.out.below hb2
          have hs2 := hb2.size
          have B2 : Below B w w2 := hb2.mono hBw
          cases hrs : rsB t
          · have HZ := Lib.hid (HE.out.trans (HRB.out hrs))
            go_wp2
            go_ret
            exact ⟨by rw [HZ.out]; rfl, B2.alloc (by omega) _, by rw [HZ.out]; intro h; cases h⟩
          · simp only [cond_true]
            obtain ⟨W3, hW3, k0, k1, B3⟩ := oneState w2 25 (t.size : Int) (rsM t t.size)
            have M3 := M2.below B3
            have d0 : W3.cell? ⟨g, 0, none⟩ = some (.int .i64 R.h) := M3.c0
            have d1 : W3.cell? ⟨g, 1, none⟩ = some (.int .i64 R.m) := M3.c1
            have BR3 : Below B w W3 := B2.trans (B3.mono (by omega))
            obtain ⟨X, hX⟩ : ∃ X, Hid (rsM t t.size = X) := ⟨_, Lib.hid rfl⟩
            rw [hX.out] at hW3 k1 ⊢
            go_wp2_with fail
            rw [← hW3]
            clear hW3
            have qg := gState
            have HCK : Hid (checkF R t = bif decide ((t.size : Int) = R.h ∧ X = R.m) then (0, R) else (4, R)) := by
              unfold Hid checkF
              rw [hrs, hX.out, Bool.decide_and]; rfl
            have qs := fun w' => neState w' (t.size : Int) X R.h R.m
            cases hdc : decide ((t.size : Int) = R.h ∧ X = R.m)
            · have HZ : Hid (F = (4, R)) := by unfold Hid; rw [HE.out, HCK.out, hdc]; rfl
              rw [hdc] at qs
              go_wp2
              go_quiet (fail)
              go_wp2
              go_ret
              exact ⟨by rw [HZ.out]; rfl, ⟨BR3.os, BR3.tape, BR3.output, BR3.size, BR3.block⟩, by rw [HZ.out]; intro h; cases h⟩
            · have HZ : Hid (F = (0, R)) := by unfold Hid; rw [HE.out, HCK.out, hdc]; rfl
              rw [hdc] at qs
              go_wp2
              go_quiet (fail)
              go_wp2
              go_ret
              exact ⟨by rw [HZ.out]; rfl, ⟨BR3.os, BR3.tape, BR3.output, BR3.size, BR3.block⟩, fun _ => ⟨v0, by rw [HZ.out]; exact M3.below ((Below.refl _ _).drN _)⟩⟩
      · obtain ⟨hy1, hts⟩ := hy rfl
        have HE := Lib.hid (HW.out.trans (HTH.out t _ rfl hy1))
        clear hy hn hy1
        have HNO2 := Lib.hid (fun h => not_okDig (a := t) h)
        have HOF := Lib.hid (fun h => okDig_of (a := t) h)
        go_wp2_with fail
        refine (c_spec_l27R_digits t _ _ (by omega)).mono ?_; rintro e w2 ⟨vp, rfl, hop, hb2⟩
        have M2 := Lib.hid (HM.out.below hb2)
        have hs2 := hb2.size
        have B2 : Below B w w2 := hb2.mono hBw
        have HLN : Hid ((digsTo t t.size).length = t.size) := digsTo_len t t.size
        cases hd : digB t
        · have hok : okDig t = false := by rw [okDig_digB, hd]; rfl
          have HZ : Hid (F = (2, R)) := by unfold Hid; rw [HE.out, hok]; rfl
          go_wp2
          go_ret
          exact ⟨by rw [HZ.out]; rfl, B2, by rw [HZ.out]; intro h; cases h⟩
        · have hou := hop hd
          clear hop
          obtain ⟨ad, cap, rfl, hl, hcc⟩ := hou.rd
          by_cases h12 : 12 < t.size
          · have HZ : Hid (F = (2, R)) := by unfold Hid; rw [HE.out, HNO2.out h12]; rfl
            have h12I : (12 : Int) < (t.size : Int) := by omega
            rw [HLN.out]
            go_wp2
            go_ret
            exact ⟨by rw [HZ.out]; rfl, B2, by rw [HZ.out]; intro h; cases h⟩
          · have hok : okDig t = true := by rw [HOF.out h12, hd]
            have hal := okDig_len hok
            have HZ : Hid (F = makeF R (digsTo t t.size)) := by unfold Hid; rw [HE.out, hok]; rfl
            have h12I : ¬ (12 : Int) < (t.size : Int) := by omega
            have hsp : ∀ q, (Value.slice ad (digsTo t t.size).length cap).ownBlock = some q → q ≠ g ∧ v0.ownBlock ≠ some q := fun q hq => by
              have h1 := (World.ownsRow.lt hou q hq).1
              have h2 := HM.out.hg
              exact ⟨by omega, fun e => by have := (World.ownsRow.lt HM.out.own q e).2; omega⟩
            have hrd := hou.rd
            obtain ⟨Q, HQ⟩ : ∃ Q, Hid (digsTo t t.size = Q) := ⟨_, Lib.hid rfl⟩
            rw [HQ.out] at hsp hrd HZ HLN ⊢
            have hQl : Q.length = t.size := HLN.out
            rw [hQl] at hsp hrd ⊢
            clear hou hl hcc
            go_wp2_with fail
            refine (c_spec_l27R_make st B g R Q v0 _ _ M2.out HV.out hrd hsp (by omega) (by omega) (by omega)).mono ?_; rintro e w5 ⟨rfl, hb5, hm5⟩
            have B5 := B2.trans hb5
            cases hr : runOk R.h R.m Q
            · have HY : Hid (F = (3, R)) := by unfold Hid; rw [HZ.out]; unfold makeF; rw [hr]; rfl
              go_wp2
              go_ret
              exact ⟨by rw [HY.out]; rfl, B5, by rw [HY.out]; intro h; cases h⟩
            · have HY : Hid (F = (0, R.add Q)) := by unfold Hid; rw [HZ.out]; unfold makeF; rw [hr]; rfl
              obtain ⟨v5, M5, -, -⟩ := hm5 hr
              rw [Rc.run_len] at M5
              go_wp2
              go_ret
              exact ⟨by rw [HY.out]; rfl, B5, fun _ => ⟨v5, by rw [HY.out]; exact M5⟩⟩
    · have HZ := Lib.hid (HLD.out rfl hend)
      have BZ := (Below.refl B w).setCell (p := ⟨g, 3, none⟩) hBg (.bool true)
      go_wp2
      generalize (w.setCell ⟨g, 3, none⟩ (.bool true)) = wz at *
      go_ret
      exact ⟨by rw [HZ.out]; rfl, BZ, fun _ => ⟨v0, by rw [HZ.out]; exact HSE.out⟩⟩
  · have HZ := Lib.hid (HLE.out rfl)
    go_wp2
    go_ret
    exact ⟨by rw [HZ.out]; rfl, Below.refl _ _, by rw [HZ.out]; intro h; cases h⟩
end Go.Proofs.YtioemkdapoombaaGreatDoor
end
section
namespace Go.Proofs.YtioemkdapoombaaGreatDoor
open Go.ChangeShapes Go.WideShapes Go.ChangeAt Go.RowKit
set_option linter.unusedSimpArgs false
set_option linter.unusedVariables false
set_option maxHeartbeats 16000000 in
set_option maxRecDepth 100000 in
theorem c_impl_record_line (st : StK) (B g : Nat) (R : Rc) (s : ByteArray) (v0 : Value) (w : World) (h : RecM 2 st B g w R v0 v0) (hv : validB R.h R.m = true) (hsz : s.size ≤ 2000000) (hxl : R.xs.length ≤ 100000000) (hBw : B ≤ w.heap.size) (ht : Tab w) :
    Calls Tryz.prog 62 #[.pointer (some ⟨g, 0, none⟩), .string s] w fun e w' => LnP 2 st B g (lineF R s) w e w' := by
  have HM := Lib.hid h
  have HV := Lib.hid hv
  have HTB := Lib.hid ht
  have HLE := Lib.hid (fun h => line_e (R := R) (s := s) h)
  have HLD := Lib.hid (fun h h2 => line_end (R := R) (s := s) h h2)
  have HLW := Lib.hid (fun h h2 => line_w (R := R) (s := s) h h2)
  have HWI := Lib.hid (words_in (s := s))
  have HNE := Lib.hid (words_ne s)
  have hgw := h.hg
  have hBg := h.hB
  have c5 : w.cell? ⟨g, 5, none⟩ = some (.bool R.e) := h.c3
  clear h hv ht
  obtain ⟨F, hF⟩ : ∃ F, Hid (lineF R s = F) := ⟨_, Lib.hid rfl⟩
  rw [hF.out] at HLE HLD HLW ⊢
  clear hF
  obtain ⟨X, hX⟩ : ∃ X, Hid (words s = X) := ⟨_, Lib.hid rfl⟩
  rw [hX.out] at HLW HWI HNE
  obtain ⟨E, hE⟩ : ∃ E, Hid (R.e = E) := ⟨_, Lib.hid rfl⟩
  rw [hE.out] at HLE HLD HLW c5
  go_enter Tryz.func62, Tryz.ntmps62
  cases E
  · go_wp2_with fail
    refine (c_impl_parts s _ (by omega)).mono ?_; rintro e w1 ⟨u, rfl, hou, hb1⟩
    rw [hX.out] at hou
    clear hX
    have M1 := Lib.hid (HM.out.below hb1)
    have hs1 := hb1.size
    have B1 : Below B w w1 := hb1.mono hBw
    have T1 := Lib.hid (tab_below HTB.out hb1)
    have hro := hou.rd rowT_len
    obtain ⟨au, cu, rfl, hru1, hru2⟩ := id hro
    clear hou c5 hru2
    cases hend : (s.toList == [101, 110, 100])
    · have HW := Lib.hid (HLW.out (by trivial) hend)
      obtain ⟨a, ws, rfl⟩ : ∃ a ws, X = a :: ws := by
        cases X with
        | nil => exact absurd rfl HNE.out
        | cons a ws => exact ⟨a, ws, rfl⟩
      obtain ⟨bw, ow, rfl, y0⟩ := rdT_at hro 0 (by simp)
      have y0 : w1.cell? ⟨bw, ow, none⟩ = some (.string a) := y0
      have HTA := Lib.hid (tl_bl a)
      cases c1 : (a.toList == [116, 104, 114, 111, 119])
      · have e1 : (bl a == thrW) = false := by rw [← HTA.out]; exact c1
        cases c2 : (a.toList == [112, 97, 116, 116, 101, 114, 110])
        · have e2 : (bl a == patT) = false := by rw [← HTA.out]; exact c2
          cases c3 : (a.toList == [99, 104, 101, 99, 107])
          · have e3 : (bl a == chkW) = false := by rw [← HTA.out]; exact c3
            have HZ : Hid (F = (2, R)) := by
              unfold Hid
              rw [HW.out]
              rcases ws with _ | ⟨b, _ | ⟨c, _ | ⟨d, ws⟩⟩⟩
              · rfl
              · show (bif bl a == thrW then _ else (bif bl a == chkW then _ else _)) = _
                rw [e1, e3]; rfl
              · show (bif bl a == patT then _ else _) = _
                rw [e2]; rfl
              · rfl
            go_wp2
            go_ret
            exact ⟨by rw [HZ.out]; rfl, B1, by rw [HZ.out]; intro h; cases h⟩
          · have e3 : (bl a == chkW) = true := by rw [← HTA.out]; exact c3
            by_cases h2 : ws.length = 1
            · obtain ⟨b, rfl⟩ : ∃ b, ws = [b] := by
                match ws, h2 with
                | [b], _ => exact ⟨b, rfl⟩
              have hbz : b.size ≤ s.size := HWI.out b (by simp)
              obtain ⟨bw', ow', he', y1⟩ := rdT_at hro 1 (by simp)
              cases he'
              have y1 : w1.cell? ⟨bw, ow + 1, none⟩ = some (.string b) := y1
              have HE : Hid (F = checkF R b) := by
                unfold Hid
                rw [HW.out]
                show (bif bl a == thrW then _ else (bif bl a == chkW then _ else _)) = _
                rw [e1, e3]; rfl
              have HRB := Lib.hid (fun h : rsB b = false => (show checkF R b = (2, R) by unfold checkF; rw [h]; rfl))
              have hlen2 : ([a, b] : List ByteArray).length = 2 := rfl
              rw [hlen2] at hro hru1 ⊢
              go_wp2_with fail
              refine (c_impl_ReadState b _ (by omega)).mono ?_; rintro e w2 ⟨rfl, hb2⟩
              have M2 := M1.out.below hb2
              have hs2 := hb2.size
              have B2 : Below B w w2 := B1.trans (hb2.mono (by omega))
              cases hrs : rsB b
              · have HZ := Lib.hid (HE.out.trans (HRB.out hrs))
                go_wp2
                go_ret
                exact ⟨by rw [HZ.out]; rfl, B2.alloc (by omega) _, by rw [HZ.out]; intro h; cases h⟩
              · simp only [cond_true]
                obtain ⟨W3, hW3, k0, k1, B3⟩ := oneState w2 25 (b.size : Int) (rsM b b.size)
                have M3 := M2.below B3
                have d0 : W3.cell? ⟨g, 2, none⟩ = some (.int .i64 R.h) := M3.c0
                have d1 : W3.cell? ⟨g, 3, none⟩ = some (.int .i64 R.m) := M3.c1
                have BR3 : Below B w W3 := B2.trans (B3.mono (by omega))
                obtain ⟨Y, hY⟩ : ∃ Y, Hid (rsM b b.size = Y) := ⟨_, Lib.hid rfl⟩
                rw [hY.out] at hW3 k1 ⊢
                go_wp2_with fail
                rw [← hW3]
                clear hW3
                have qg := gState
                have HCK : Hid (checkF R b = bif decide ((b.size : Int) = R.h ∧ Y = R.m) then (0, R) else (4, R)) := by
                  unfold Hid checkF
                  rw [hrs, hY.out, Bool.decide_and]; rfl
                have qs := fun w' => neState w' (b.size : Int) Y R.h R.m
                cases hdc : decide ((b.size : Int) = R.h ∧ Y = R.m)
                · have HZ : Hid (F = (4, R)) := by unfold Hid; rw [HE.out, HCK.out, hdc]; rfl
                  rw [hdc] at qs
                  go_wp2
                  go_quiet (fail)
                  go_wp2
                  go_ret
                  exact ⟨by rw [HZ.out]; rfl, ⟨BR3.os, BR3.tape, BR3.output, BR3.size, BR3.block⟩, by rw [HZ.out]; intro h; cases h⟩
                · have HZ : Hid (F = (0, R)) := by unfold Hid; rw [HE.out, HCK.out, hdc]; rfl
                  rw [hdc] at qs
                  go_wp2
                  go_quiet (fail)
                  go_wp2
                  go_ret
                  exact ⟨by rw [HZ.out]; rfl, ⟨BR3.os, BR3.tape, BR3.output, BR3.size, BR3.block⟩, fun _ => ⟨v0, by rw [HZ.out]; exact M3.below ((Below.refl _ _).drN _)⟩⟩
            · have HZ : Hid (F = (2, R)) := by
                unfold Hid
                rw [HW.out]
                rcases ws with _ | ⟨b, _ | ⟨c, _ | ⟨d, ws⟩⟩⟩
                · rfl
                · exact absurd rfl h2
                · show (bif bl a == patT then _ else _) = _
                  rw [e2]; rfl
                · rfl
              obtain ⟨N, hN⟩ : ∃ N, (a :: ws).length = N := ⟨_, rfl⟩
              have hN2 : N ≠ 2 := by rw [← hN, List.length_cons]; omega
              have hNp : (0 : Int) < (N : Int) := by rw [← hN, List.length_cons]; omega
              have n2 : ((N : Int) == 2) = false := beq_eq_false_iff_ne.2 (by omega)
              rw [hN] at hro hru1 ⊢
              clear hN
              go_wp2
              go_ret
              exact ⟨by rw [HZ.out]; rfl, B1, by rw [HZ.out]; intro h; cases h⟩
        · have e2 : (bl a == patT) = true := by rw [← HTA.out]; exact c2
          have hpa : bl a = patT := eq_of_beq e2
          have e3 : (bl a == chkW) = false := by rw [hpa]; rfl
          have c3 : (a.toList == [99, 104, 101, 99, 107]) = false := by rw [HTA.out]; exact e3
          by_cases h3 : ws.length = 2
          · obtain ⟨b, c, rfl⟩ : ∃ b c, ws = [b, c] := by
              match ws, h3 with
              | [b, c], _ => exact ⟨b, c, rfl⟩
            have hbz : b.size ≤ s.size := HWI.out b (by simp)
            have hcz : c.size ≤ s.size := HWI.out c (by simp)
            obtain ⟨bw', ow', he', y1⟩ := rdT_at hro 1 (by simp)
            cases he'
            obtain ⟨bw', ow', he', y2⟩ := rdT_at hro 2 (by simp)
            cases he'
            have y1 : w1.drew.cell? ⟨bw, ow + 1, none⟩ = some (.string b) := y1
            have y2 : w1.drew.cell? ⟨bw, ow + 2, none⟩ = some (.string c) := y2
            have HE : Hid (F = patF R b c) := by
              unfold Hid
              rw [HW.out]
              show (bif bl a == patT then _ else _) = _
              rw [e2]; rfl
            have hlen2 : ([a, b, c] : List ByteArray).length = 3 := rfl
            rw [hlen2] at hro hru1 ⊢
            have MD := M1.out.below ((Below.refl _ _).dr)
            have TD : Tab w1.drew := tab_below T1.out ((Below.refl _ _).dr)
            go_wp2_with fail
            
            refine wp_region_noPanic ?_; refine wp_region_L (S := untilL 7 7 (fun w' => w'.cell? ⟨bw, ow + 1, none⟩ = some (.string b)) (fun w' => w'.cell? ⟨bw, ow + 2, none⟩ = some (.string c))) (by kernel_rfl) ?_
            (refine wpAnyL_take (S0 := (fun _ => True)) (i := 0) (q := 7) (v := ?lv43) rfl rfl (by kernel_rfl) (by kernel_rfl) (by kernel_rfl) (by kernel_rfl) (by kernel_rfl) (fun _ _ _ h => h) (fun _ _ _ _ => True.intro) (untilL_set (by decide) (by decide)) (Or.inl ⟨by rfl, ?lhy43⟩) ⟨fun _ => y1, fun _ => y2⟩ ?lrest43; case lhy43 => (intro w hSw; (try dsimp only at hSw); go_simp; (try with_reducible rfl)); (try simp only [Act.put, List.getElem_toArray, List.getElem_cons_zero, List.getElem_cons_succ, List.setIfInBounds_toArray, List.set_cons_zero, List.set_cons_succ])); (refine wpAnyL_take (S0 := (fun _ => True)) (i := 1) (q := 2) (v := ?lv44) rfl rfl (by kernel_rfl) (by kernel_rfl) (by kernel_rfl) (by kernel_rfl) (by kernel_rfl) (fun _ _ _ h => h) (fun _ _ _ _ => True.intro) (untilL_set (by decide) (by decide)) (Or.inl ⟨by rfl, ?lhy44⟩) ⟨fun _ => y1, fun _ => y2⟩ ?lrest44; case lhy44 => (intro w hSw; (try dsimp only at hSw); go_simp; (try with_reducible rfl)); (try simp only [Act.put, List.getElem_toArray, List.getElem_cons_zero, List.getElem_cons_succ, List.setIfInBounds_toArray, List.set_cons_zero, List.set_cons_succ])); (refine wpAnyL_take (S0 := (fun _ => True)) (i := 2) (q := 3) (v := ?lv45) rfl rfl (by kernel_rfl) (by kernel_rfl) (by kernel_rfl) (by kernel_rfl) (by kernel_rfl) (fun _ _ _ h => h) (fun _ _ _ _ => True.intro) (untilL_set (by decide) (by decide)) (Or.inl ⟨by rfl, ?lhy45⟩) ⟨fun _ => y1, fun _ => y2⟩ ?lrest45; case lhy45 => (intro w hSw; (try dsimp only at hSw); go_simp; (try with_reducible rfl)); (try simp only [Act.put, List.getElem_toArray, List.getElem_cons_zero, List.getElem_cons_succ, List.setIfInBounds_toArray, List.set_cons_zero, List.set_cons_succ])); (refine wpAnyL_take (S0 := (fun w' => w'.cell? ⟨bw, ow + 1, none⟩ = some (.string b))) (i := 3) (q := 7) (v := ?lv46) rfl rfl (by kernel_rfl) (by kernel_rfl) (by kernel_rfl) (by kernel_rfl) (by kernel_rfl) (fun _ _ _ h => h) (fun _ _ hq hS => hS.1 hq) (untilL_set (by decide) (by decide)) (Or.inl ⟨by rfl, ?lhy46⟩) ⟨fun _ => y1, fun _ => y2⟩ ?lrest46; case lhy46 => (intro w hSw; (try dsimp only at hSw); go_simp; (try with_reducible rfl)); (try simp only [Act.put, List.getElem_toArray, List.getElem_cons_zero, List.getElem_cons_succ, List.setIfInBounds_toArray, List.set_cons_zero, List.set_cons_succ])); (refine wpAnyL_take (S0 := (fun _ => True)) (i := 4) (q := 5) (v := ?lv47) rfl rfl (by kernel_rfl) (by kernel_rfl) (by kernel_rfl) (by kernel_rfl) (by kernel_rfl) (fun _ _ _ h => h) (fun _ _ _ _ => True.intro) (untilL_set (by decide) (by decide)) (Or.inl ⟨by rfl, ?lhy47⟩) ⟨fun _ => y1, fun _ => y2⟩ ?lrest47; case lhy47 => (intro w hSw; (try dsimp only at hSw); go_simp; (try with_reducible rfl)); (try simp only [Act.put, List.getElem_toArray, List.getElem_cons_zero, List.getElem_cons_succ, List.setIfInBounds_toArray, List.set_cons_zero, List.set_cons_succ])); (refine wpAnyL_take (S0 := (fun _ => True)) (i := 5) (q := 6) (v := ?lv48) rfl rfl (by kernel_rfl) (by kernel_rfl) (by kernel_rfl) (by kernel_rfl) (by kernel_rfl) (fun _ _ _ h => h) (fun _ _ _ _ => True.intro) (untilL_set (by decide) (by decide)) (Or.inl ⟨by rfl, ?lhy48⟩) ⟨fun _ => y1, fun _ => y2⟩ ?lrest48; case lhy48 => (intro w hSw; (try dsimp only at hSw); go_simp; (try with_reducible rfl)); (try simp only [Act.put, List.getElem_toArray, List.getElem_cons_zero, List.getElem_cons_succ, List.setIfInBounds_toArray, List.set_cons_zero, List.set_cons_succ])); (refine wpAnyL_take (S0 := (fun w' => w'.cell? ⟨bw, ow + 2, none⟩ = some (.string c))) (i := 6) (q := 7) (v := ?lv49) rfl rfl (by kernel_rfl) (by kernel_rfl) (by kernel_rfl) (by kernel_rfl) (by kernel_rfl) (fun _ _ _ h => h) (fun _ _ hq hS => hS.2 hq) (untilL_set (by decide) (by decide)) (Or.inl ⟨by rfl, ?lhy49⟩) ⟨fun _ => y1, fun _ => y2⟩ ?lrest49; case lhy49 => (intro w hSw; (try dsimp only at hSw); go_simp; (try with_reducible rfl)); (try simp only [Act.put, List.getElem_toArray, List.getElem_cons_zero, List.getElem_cons_succ, List.setIfInBounds_toArray, List.set_cons_zero, List.set_cons_succ]))
            refine wpAnyL_ready (rs := [7]) (by kernel_rfl) (by simp) ?_; refine AllReadyL.cons (i := 7) rfl (fun K hK => ?_) AllReadyL.nil
            go_simp
            refine (c_impl_record_pattern st B g R b c v0 _ MD HV.out (by omega) (by omega) hxl (by show B ≤ w1.heap.size; omega) TD).mono ?_; rintro e w5 ⟨rfl, hb5, hm5⟩
            refine hK.out _ _ ⟨(fun h => Bool.noConfusion (show true = false from h)), (fun h => Bool.noConfusion (show true = false from h))⟩ (fun hHeld => ?_); clear hK K; (try simp only [Act.put, List.getElem_toArray, List.getElem_cons_zero, List.getElem_cons_succ, List.setIfInBounds_toArray, List.set_cons_zero, List.set_cons_succ])
            refine wpAnyL_ready (rs := [8]) (by kernel_rfl) (by simp) ?_; refine AllReadyL.cons (i := 8) rfl (fun K hK => ?_) AllReadyL.nil
            go_simp
            refine hK.out _ _ ⟨(fun h => Bool.noConfusion (show true = false from h)), (fun h => Bool.noConfusion (show true = false from h))⟩ (fun hHeld => ?_); clear hK K; (try simp only [Act.put, List.getElem_toArray, List.getElem_cons_zero, List.getElem_cons_succ, List.setIfInBounds_toArray, List.set_cons_zero, List.set_cons_succ])
            refine wpAnyL_done (by kernel_rfl) ?_ _; refine NoPanic.normal ?_
            have B5 : Below B w w5 := Below.trans (⟨B1.os, B1.tape, B1.output, B1.size, B1.block⟩ : Below B w w1.drew) hb5
            rw [← HE.out] at hm5 ⊢
            go_wp2
            go_ret
            exact ⟨rfl, B5, hm5⟩
          · have HZ : Hid (F = (2, R)) := by
              unfold Hid
              rw [HW.out]
              rcases ws with _ | ⟨b, _ | ⟨c, _ | ⟨d, ws⟩⟩⟩
              · rfl
              · show (bif bl a == thrW then _ else (bif bl a == chkW then _ else _)) = _
                rw [e1, e3]; rfl
              · exact absurd rfl h3
              · rfl
            obtain ⟨N, hN⟩ : ∃ N, (a :: ws).length = N := ⟨_, rfl⟩
            have hN3 : N ≠ 3 := by rw [← hN, List.length_cons]; omega
            have hNp : (0 : Int) < (N : Int) := by rw [← hN, List.length_cons]; omega
            have n3 : ((N : Int) == 3) = false := beq_eq_false_iff_ne.2 (by omega)
            rw [hN] at hro hru1 ⊢
            clear hN
            go_wp2
            go_ret
            exact ⟨by rw [HZ.out]; rfl, B1, by rw [HZ.out]; intro h; cases h⟩
      · have e1 : (bl a == thrW) = true := by rw [← HTA.out]; exact c1
        have hpa : bl a = thrW := eq_of_beq e1
        have e3 : (bl a == chkW) = false := by rw [hpa]; rfl
        have c3 : (a.toList == [99, 104, 101, 99, 107]) = false := by rw [HTA.out]; exact e3
        have e2 : (bl a == patT) = false := by rw [hpa]; rfl
        have c2 : (a.toList == [112, 97, 116, 116, 101, 114, 110]) = false := by rw [HTA.out]; exact e2
        by_cases h2 : ws.length = 1
        · obtain ⟨b, rfl⟩ : ∃ b, ws = [b] := by
            match ws, h2 with
            | [b], _ => exact ⟨b, rfl⟩
          have hbz : b.size ≤ s.size := HWI.out b (by simp)
          obtain ⟨bw', ow', he', y1⟩ := rdT_at hro 1 (by simp)
          cases he'
          have y1 : w1.cell? ⟨bw, ow + 1, none⟩ = some (.string b) := y1
          have HE : Hid (F = bif okDig b then makeF R (digsTo b b.size) else (2, R)) := by
            unfold Hid
            rw [HW.out]
            show (bif bl a == thrW then _ else _) = _
            rw [e1]; rfl
          have hlen2 : ([a, b] : List ByteArray).length = 2 := rfl
          rw [hlen2] at hro hru1 ⊢
          go_wp2_with fail
          refine (c_impl_isDigits b _ (by omega)).mono ?_; rintro e w2 ⟨rfl, rfl⟩
          cases hok : okDig b
          · have HZ : Hid (F = (2, R)) := by unfold Hid; rw [HE.out, hok]; rfl
            go_wp2
            go_ret
            exact ⟨by rw [HZ.out]; rfl, B1, by rw [HZ.out]; intro h; cases h⟩
          · have hal := okDig_len hok
            have HZ : Hid (F = makeF R (digsTo b b.size)) := by unfold Hid; rw [HE.out, hok]; rfl
            have HLN : Hid ((digsTo b b.size).length = b.size) := digsTo_len b b.size
            go_wp2_with fail
            refine (c_impl_readDigits b _ (by omega)).mono ?_; rintro e w3 ⟨u, rfl, hou, hb3⟩
            have M3 := M1.out.below hb3
            have hs3 := hb3.size
            have B3 : Below B w w3 := B1.trans (hb3.mono (by omega))
            have hsp : ∀ q, u.ownBlock = some q → q ≠ g ∧ v0.ownBlock ≠ some q := fun q hq => by
              have h1 := (World.ownsRow.lt hou q hq).1
              have h2 := M1.out.hg
              exact ⟨by omega, fun e => by have := (World.ownsRow.lt M1.out.own q e).2; omega⟩
            obtain ⟨Q, HQ⟩ : ∃ Q, Hid (digsTo b b.size = Q) := ⟨_, Lib.hid rfl⟩
            rw [HQ.out] at HZ HLN hou
            have hQl : Q.length = b.size := HLN.out
            go_wp2_with fail
            refine (c_impl_record_make st B g R Q v0 u _ M3 HV.out hou.rd hsp (by omega) (by omega) (by omega)).mono ?_; rintro e w5 ⟨rfl, hb5, hm5⟩
            have B5 := B3.trans hb5
            cases hr : runOk R.h R.m Q
            · have HY : Hid (F = (3, R)) := by unfold Hid; rw [HZ.out]; unfold makeF; rw [hr]; rfl
              go_wp2
              go_ret
              exact ⟨by rw [HY.out]; rfl, B5, by rw [HY.out]; intro h; cases h⟩
            · have HY : Hid (F = (0, R.add Q)) := by unfold Hid; rw [HZ.out]; unfold makeF; rw [hr]; rfl
              obtain ⟨v5, M5, -, -⟩ := hm5 hr
              rw [Rc.run_len] at M5
              go_wp2
              go_ret
              exact ⟨by rw [HY.out]; rfl, B5, fun _ => ⟨v5, by rw [HY.out]; exact M5⟩⟩
        · have HZ : Hid (F = (2, R)) := by
            unfold Hid
            rw [HW.out]
            rcases ws with _ | ⟨b, _ | ⟨c, _ | ⟨d, ws⟩⟩⟩
            · rfl
            · exact absurd rfl h2
            · show (bif bl a == patT then _ else _) = _
              rw [e2]; rfl
            · rfl
          obtain ⟨N, hN⟩ : ∃ N, (a :: ws).length = N := ⟨_, rfl⟩
          have hN2 : N ≠ 2 := by rw [← hN, List.length_cons]; omega
          have hNp : (0 : Int) < (N : Int) := by rw [← hN, List.length_cons]; omega
          have n2 : ((N : Int) == 2) = false := beq_eq_false_iff_ne.2 (by omega)
          rw [hN] at hro hru1 ⊢
          clear hN
          go_wp2
          go_ret
          exact ⟨by rw [HZ.out]; rfl, B1, by rw [HZ.out]; intro h; cases h⟩
    · have HZ := Lib.hid (HLD.out (by trivial) hend)
      have BZ := B1.setCell (p := ⟨g, 5, none⟩) hBg (.bool true)
      have HSE : Hid (RecM 2 st B g (w1.setCell ⟨g, 5, none⟩ (.bool true)) ⟨R.h, R.m, R.xs, true⟩ v0 v0) := M1.out.sete true
      have d5 : w1.cell? ⟨g, 5, none⟩ = some (.bool R.e) := M1.out.c3
      have f5 : w1.frozen? ⟨g, 5, none⟩ = false := M1.out.fz 5 (by omega)
      go_wp2
      generalize (w1.setCell ⟨g, 5, none⟩ (.bool true)) = wz at *
      go_ret
      exact ⟨by rw [HZ.out]; rfl, BZ, fun _ => ⟨v0, by rw [HZ.out]; exact HSE.out⟩⟩
  · have HZ := Lib.hid (HLE.out (by trivial))
    go_wp2
    go_ret
    exact ⟨by rw [HZ.out]; rfl, Below.refl _ _, by rw [HZ.out]; intro h; cases h⟩
end Go.Proofs.YtioemkdapoombaaGreatDoor
end
