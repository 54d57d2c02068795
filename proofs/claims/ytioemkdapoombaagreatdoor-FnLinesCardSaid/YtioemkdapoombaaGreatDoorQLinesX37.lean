/- The law LinesX: what it rests on, part 37 of 46. -/
import Derived.Test.YtioemkdapoombaaGreatDoorQLinesX36
section
namespace Go.Proofs.YtioemkdapoombaaGreatDoor
open Go.ChangeShapes Go.WideShapes Go.ChangeAt Go.RowKit
set_option linter.unusedSimpArgs false
set_option linter.unusedVariables false
def staW : List UInt8 := [115, 116, 97, 114, 116]
def startF (s : ByteArray) : Option (Int × Int) := match words s with
  | [p, t] => if bl p = staW ∧ rsB t = true then some ((t.size : Int), rsM t t.size) else none
  | _ => none
theorem start_cut {s p t : ByteArray} (h : words s = p :: words t) : startF s = if bl p = staW ∧ rsB t = true then some ((t.size : Int), rsM t t.size) else none := by
  unfold startF
  rcases hw : words t with _ | ⟨x, _ | ⟨y, zs⟩⟩
  · exact absurd hw (words_ne t)
  · rw [h, hw, words_one hw]
  · rw [h, hw, if_neg (by rw [rs_blank hw]; simp)]
theorem start_one {s : ByteArray} (h : words s = [s]) : startF s = none := by unfold startF; rw [h]
theorem start_no {s p : ByteArray} (hp : bl p = staW) (h : ∀ x ws, words s ≠ p :: x :: ws) : startF s = none := by
  unfold startF
  split
  · rename_i q t hw
    rw [if_neg]
    rintro ⟨h1, -⟩
    exact h t [] (by rw [hw, bl_inj (h1.trans hp.symm)])
  · rfl
theorem start_valid {s : ByteArray} {h m : Int} (e : startF s = some (h, m)) : validB h m = true := by
  unfold startF at e
  split at e
  · rename_i p t hw
    split at e
    · rename_i hc
      simp only [Option.some.injEq, Prod.mk.injEq] at e
      obtain ⟨rfl, rfl⟩ := e
      have h1 := hc.2
      unfold rsB at h1
      rw [Bool.and_eq_true] at h1
      have h2 := inB_iff.1 h1.1
      have h3 := rsM_bd t t.size
      refine validB_iff.2 ⟨h2, ?_⟩
      rw [Int.toNat_natCast]
      have e4 : ((2 ^ t.size : Nat) : Int) = (2 : Int) ^ t.size := by simp
      omega
    · cases e
  · cases e
def runL : Rc → List ByteArray → Int → Int × Int × Rc
  | R, [], i => bif R.e then (-1, 0, R) else (i, 6, R)
  | R, s :: ls, i => bif (lineF R s).1 == 0 then runL (lineF R s).2 ls (i + 1) else (i, (lineF R s).1, R)
def startR (h m : Int) : Rc := ⟨h, m, [], false⟩
def runF (X : List ByteArray) : Int × Int × Rc := match X with
  | [] => (0, 1, startR 0 0)
  | s :: ls => match startF s with
    | none => (0, 1, startR 0 0)
    | some (h, m) => runL (startR h m) ls 1
def startC (X : List ByteArray) : StK := match X with
  | [] => stk []
  | s :: _ => match startF s with
    | none => stk []
    | some (h, m) => stk [.int .i64 h, .int .i64 m]
theorem runF_none {s : ByteArray} {ls : List ByteArray} (h : startF s = none) : runF (s :: ls) = (0, 1, startR 0 0) := by simp only [runF, h]
theorem runF_some {s : ByteArray} {ls : List ByteArray} {h m : Int} (e : startF s = some (h, m)) : runF (s :: ls) = runL (startR h m) ls 1 := by simp only [runF, e]
theorem startC_some {s : ByteArray} {ls : List ByteArray} {h m : Int} (e : startF s = some (h, m)) : startC (s :: ls) = stk [.int .i64 h, .int .i64 m] := by simp only [startC, e]
theorem startC_K (X : List ByteArray) (k : Nat) : ¬ (startC X).K k := by
  unfold startC
  split
  · exact id
  · split <;> exact id
theorem runL_ok {R : Rc} {ls : List ByteArray} {k : Nat} {i : Int} (hk : k < ls.length) (h : (lineF R (ls.getD k ⟨#[]⟩)).1 = 0) : runL R (ls.drop k) i = runL (lineF R (ls.getD k ⟨#[]⟩)).2 (ls.drop (k + 1)) (i + 1) := by
  have e : ls.getD k ⟨#[]⟩ = ls[k] := by simp [List.getD, hk]
  rw [e] at h ⊢
  rw [List.drop_eq_getElem_cons hk, runL, h]; rfl
theorem runL_no {R : Rc} {ls : List ByteArray} {k : Nat} {i : Int} (hk : k < ls.length) (h : (lineF R (ls.getD k ⟨#[]⟩)).1 ≠ 0) : runL R (ls.drop k) i = (i, (lineF R (ls.getD k ⟨#[]⟩)).1, R) := by
  have e : ls.getD k ⟨#[]⟩ = ls[k] := by simp [List.getD, hk]
  rw [e] at h ⊢
  rw [List.drop_eq_getElem_cons hk, runL, beq_eq_false_iff_ne.2 h]; rfl
theorem runL_end {R : Rc} {ls : List ByteArray} {i : Int} : runL R (ls.drop ls.length) i = bif R.e then (-1, 0, R) else (i, 6, R) := by rw [List.drop_length]; rfl
theorem makeF_ok {R : Rc} {L : List Int} (hv : validB R.h R.m = true) (hl : L.length ≤ 240) (h : (makeF R L).1 = 0) : validB (makeF R L).2.h (makeF R L).2.m = true ∧ (makeF R L).2.xs.length ≤ R.xs.length + 240 := by
  unfold makeF at h ⊢
  cases hr : runOk R.h R.m L
  · rw [hr] at h; cases h
  · refine ⟨run_valid hv hr, ?_⟩
    show (R.xs ++ L).length ≤ _
    rw [List.length_append]; omega
theorem okDig_240 {b : ByteArray} (h : okDig b = true) : (digsTo b b.size).length ≤ 12 := by rw [digsTo_len]; exact (okDig_len h).2
theorem patF_ok {R : Rc} {a b : ByteArray} (hv : validB R.h R.m = true) (h : (patF R a b).1 = 0) : validB (patF R a b).2.h (patF R a b).2.m = true ∧ (patF R a b).2.xs.length ≤ R.xs.length + 240 := by
  cases hc : (okDig a && (numOk b && inB (numN b) 1 20))
  · rw [patF_form hc] at h; cases h
  · cases hp : validP (digsTo a a.size)
    · rw [patF_pat hc hp] at h; cases h
    · rw [patF_mk hc hp] at h ⊢
      rw [Bool.and_eq_true, Bool.and_eq_true] at hc
      have h1 := okDig_240 hc.1
      have h2 := inB_iff.1 hc.2.2
      refine makeF_ok hv ?_ h
      rw [repL_len]
      have : (numN b).toNat * (digsTo a a.size).length ≤ 20 * 12 := Nat.mul_le_mul (by omega) h1
      omega
theorem checkF_ok {R : Rc} {b : ByteArray} (hv : validB R.h R.m = true) : validB (checkF R b).2.h (checkF R b).2.m = true ∧ (checkF R b).2.xs.length ≤ R.xs.length + 240 := by
  have e : (checkF R b).2 = R := by
    unfold checkF
    cases rsB b
    · rfl
    · simp only [cond_true]
      cases (decide ((b.size : Int) = R.h) && decide (rsM b b.size = R.m)) <;> rfl
  rw [e]; exact ⟨hv, by omega⟩
theorem lineF_ok {R : Rc} {s : ByteArray} (hv : validB R.h R.m = true) (h : (lineF R s).1 = 0) : validB (lineF R s).2.h (lineF R s).2.m = true ∧ (lineF R s).2.xs.length ≤ R.xs.length + 240 := by
  cases he : R.e
  · cases hend : (s.toList == [101, 110, 100])
    · rw [line_w he hend] at h ⊢
      rcases hw : words s with _ | ⟨a, _ | ⟨b, _ | ⟨c, _ | ⟨d, ws⟩⟩⟩⟩
      · exact absurd hw (words_ne s)
      · exact ⟨hv, by show R.xs.length ≤ _; omega⟩
      · rw [hw] at h
        change validB (bif bl a == thrW then (bif okDig b then makeF R (digsTo b b.size) else (2, R)) else (bif bl a == chkW then checkF R b else (2, R))).2.h (bif bl a == thrW then (bif okDig b then makeF R (digsTo b b.size) else (2, R)) else (bif bl a == chkW then checkF R b else (2, R))).2.m = true ∧ (bif bl a == thrW then (bif okDig b then makeF R (digsTo b b.size) else (2, R)) else (bif bl a == chkW then checkF R b else (2, R))).2.xs.length ≤ _
        change (bif bl a == thrW then (bif okDig b then makeF R (digsTo b b.size) else (2, R)) else (bif bl a == chkW then checkF R b else (2, R))).1 = 0 at h
        cases h1 : (bl a == thrW)
        · rw [h1] at h
          cases h2 : (bl a == chkW)
          · exact ⟨hv, by show R.xs.length ≤ _; omega⟩
          · exact checkF_ok hv
        · rw [h1] at h
          cases h2 : okDig b
          · exact ⟨hv, by show R.xs.length ≤ _; omega⟩
          · rw [h2] at h
            exact makeF_ok hv (by have := okDig_240 h2; omega) h
      · rw [hw] at h
        change validB (bif bl a == patT then patF R b c else (2, R)).2.h (bif bl a == patT then patF R b c else (2, R)).2.m = true ∧ (bif bl a == patT then patF R b c else (2, R)).2.xs.length ≤ _
        change (bif bl a == patT then patF R b c else (2, R)).1 = 0 at h
        cases h1 : (bl a == patT)
        · exact ⟨hv, by show R.xs.length ≤ _; omega⟩
        · rw [h1] at h
          exact patF_ok hv h
      · exact ⟨hv, by show R.xs.length ≤ _; omega⟩
    · rw [line_end he hend]
      exact ⟨hv, by show R.xs.length ≤ _; omega⟩
  · rw [line_e he] at h; cases h
/-- a slice of texts that is read, whose room is known -/
def RdTC (w : World) (v : Value) (X : List ByteArray) : Prop := RdRow 1 rowT w v X ∧ ∃ a cap, v = .slice a X.length cap ∧ X.length ≤ cap
theorem OwnRow.rdtc {lo hi : Nat} {a : World} {v : Value} {X : List ByteArray} (h : OwnT lo hi a v X) : RdTC a v X := by
  refine ⟨h.rd rowT_len, ?_⟩
  rcases h.1.2 with ⟨rfl, hn⟩ | ⟨g, cap, cur, rfl, hg, hh, hn, hm, _⟩
  · exact ⟨none, 0, by rw [hn], by omega⟩
  · exact ⟨_, cap, rfl, hn⟩
theorem rdRow_below {a b : World} {v : Value} {X : List ByteArray} (h : RdRow 1 rowT a v X) (hb : Below a.heap.size a b) : RdRow 1 rowT b v X := by
  obtain ⟨ad, cap, rfl, hl, hc⟩ := h
  refine ⟨ad, cap, rfl, hl, fun k hk => ?_⟩
  obtain ⟨bl, off, rfl, hx⟩ := hc k hk
  exact ⟨bl, off, rfl, fun c u hu => keepc hb (hx c u hu)⟩
theorem RdTC.below {a b : World} {v : Value} {X : List ByteArray} (h : RdTC a v X) (hb : Below a.heap.size a b) : RdTC b v X := ⟨rdRow_below h.1 hb, h.2⟩
theorem rdT_mk {w : World} {a : Option Addr} {cap : Nat} {X : List ByteArray} (hl : X.length ≤ 9223372036854775807) (h : ∀ k, (hk : k < X.length) → ∃ b off, a = some ⟨b, off, none⟩ ∧ w.cell? ⟨b, off + k, none⟩ = some (.string X[k])) : RdRow 1 rowT w (.slice a X.length cap) X := by
  refine ⟨a, cap, rfl, hl, fun k hk => ?_⟩
  obtain ⟨b, off, ha, hx⟩ := h k hk
  refine ⟨b, off, ha, fun c u hu => ?_⟩
  have hc0 : c = 0 := by
    have := (List.getElem?_eq_some_iff.1 hu).1
    rw [rowT_len] at this; omega
  subst hc0
  have e : u = .string X[k] := by simpa [rowT] using hu.symm
  rw [Nat.mul_one, Nat.add_zero, e]; exact hx
theorem RdTC.cut {w : World} {a : Option Addr} {n cap : Nat} {X : List ByteArray} (h : RdTC w (.slice a n cap) X) (l r : Nat) (hl : l ≤ r) (hr : r ≤ X.length) :
    n = X.length ∧ n ≤ cap ∧ RdTC w (sliced a l r cap 1) ((X.take r).drop l) := by
  obtain ⟨hrd, a2, c2, e2, hcap⟩ := h
  have hlen : X.length ≤ 9223372036854775807 := by obtain ⟨_, _, _, hl9, _⟩ := hrd; exact hl9
  cases e2
  have hlz : ((X.take r).drop l).length = r - l := by rw [List.length_drop, List.length_take, Nat.min_eq_left hr]
  refine ⟨rfl, hcap, ?_, ?_⟩
  · have key := rdT_mk (w := w) (a := if cap = l then a else a.map (·.add (l * 1))) (cap := cap - l) (X := (X.take r).drop l) (by omega) (fun k hk => by
      rw [hlz] at hk
      obtain ⟨b, off, ha, hx⟩ := rdT_at hrd (l + k) (by omega)
      subst ha
      have hne : ¬ cap = l := by omega
      refine ⟨b, off + l, ?_, ?_⟩
      · rw [if_neg hne, Option.map_some, Nat.mul_one]
        have hadd : (⟨b, off, none⟩ : Addr).add l = ⟨b, off + l, none⟩ := by unfold Addr.add; split <;> simp_all
        rw [hadd]
      · rw [Nat.add_assoc, hx]
        simp)
    rw [hlz] at key
    exact key
  · exact ⟨_, _, by unfold sliced; rw [hlz], by rw [hlz]; omega⟩
theorem elemT : Tryz.prog.underlying 29 = some (.slice (Tryz.prog.elem 29)) := by kernel_rfl
theorem sizeT (w : World) : (sizeOf (Tryz.prog.elem 29)).run Tryz.prog w = .ok 1 w := by kernel_rfl
theorem cutT_l {w : World} {v : Value} {X : List ByteArray} (h : RdTC w v X) (l : Int) (h0 : 0 ≤ l) (hl : l ≤ X.length) :
    ∃ u, (∀ w', (Instr.slice 29 v (some (.int .i64 l)) none none).run Tryz.prog w' = .ok u w') ∧ RdTC w u (X.drop l.toNat) := by
  obtain ⟨a, cap, rfl, hc⟩ := h.2
  have hk := (h.cut l.toNat X.length (by omega) (Nat.le_refl _)).2.2
  rw [List.take_length] at hk
  refine ⟨_, fun w' => ?_, hk⟩
  rw [run_slice_l w' _ _ _ _ elemT _ _ (by omega) (by omega), sizeT, Result.andThen_ok]
theorem cutT_r {w : World} {v : Value} {X : List ByteArray} (h : RdTC w v X) (r : Int) (h0 : 0 ≤ r) (hr : r ≤ X.length) :
    ∃ u, (∀ w', (Instr.slice 29 v none (some (.int .i64 r)) none).run Tryz.prog w' = .ok u w') ∧ RdTC w u (X.take r.toNat) := by
  obtain ⟨a, cap, rfl, hc⟩ := h.2
  have hk := h.cut 0 r.toNat (Nat.zero_le _) (by omega)
  refine ⟨_, fun w' => ?_, hk.2.2⟩
  rw [run_slice_h w' _ _ _ _ elemT _ _ (by omega) (by omega), sizeT, Result.andThen_ok]
def RunP (o : Nat) (X : List ByteArray) (w0 : World) (e : Ending) (w' : World) : Prop := ∃ g, e = .returned (.tuple #[.pointer (some ⟨g, 0, none⟩), .int .i64 (runF X).1, .int .i64 (runF X).2.1]) ∧ Below w0.heap.size w0 w' ∧
  (((runF X).2.1 = 0 ∨ ((runF X).2.1 = 6 ∧ (runF X).1 = (X.length : Int))) → validB (runF X).2.2.h (runF X).2.2.m = true ∧ ∃ v', RecM o (startC X) w0.heap.size g w' (runF X).2.2 v' v')
theorem RecM.start0 {B g : Nat} {w : World} {R : Rc} {vc vo : Value} {st : StK} (h : RecM 0 st B g w R vc vo) (h' m' : Int) (st' : StK) (hst : ∀ k, ¬ st'.K k) : RecM 0 st' B g ((w.setCell ⟨g, 0, none⟩ (.int .i64 h')).setCell ⟨g, 1, none⟩ (.int .i64 m')) ⟨h', m', R.xs, R.e⟩ vc vo :=
  ⟨h.hB, by simpa using h.hg, fun j hj => absurd hj (by omega), cset (by omega) (World.cell?_setCell_same _ _ _ h.c0), World.cell?_setCell_same _ _ _ (cset (by omega) h.c1), cset (by omega) (cset (by omega) h.c2), cset (by omega) (cset (by omega) h.c3),
    fun j hj => by rw [World.frozen?_setCell, World.frozen?_setCell]; exact h.fz j hj, own_set (own_set h.own h.ne) h.ne, h.ne, h.sh, fun k hk => absurd hk (hst k)⟩
theorem RecM.start2 {B g : Nat} {w : World} {R : Rc} {vc vo x0 x1 : Value} (h : RecM 2 (stk [x0, x1]) B g w R vc vo) (h' m' : Int) : RecM 2 (stk [.int .i64 h', .int .i64 m']) B g ((((w.setCell ⟨g, 0, none⟩ (.int .i64 h')).setCell ⟨g, 1, none⟩ (.int .i64 m')).setCell ⟨g, 2, none⟩ (.int .i64 h')).setCell ⟨g, 3, none⟩ (.int .i64 m')) ⟨h', m', R.xs, R.e⟩ vc vo := by
  have c0 : w.cell? ⟨g, 0, none⟩ = some x0 := h.cs 0 (by omega)
  have c1 : w.cell? ⟨g, 1, none⟩ = some x1 := h.cs 1 (by omega)
  refine ⟨h.hB, by simpa using h.hg, fun j hj => ?_, ?_, ?_, ?_, ?_, fun j hj => by rw [World.frozen?_setCell, World.frozen?_setCell, World.frozen?_setCell, World.frozen?_setCell]; exact h.fz j hj, own_set (own_set (own_set (own_set h.own h.ne) h.ne) h.ne) h.ne, h.ne, h.sh, fun k hk => hk.elim⟩
  · match j, hj with
    | 0, _ => exact cset (by omega) (cset (by omega) (cset (by omega) (World.cell?_setCell_same _ _ _ c0)))
    | 1, _ => exact cset (by omega) (cset (by omega) (World.cell?_setCell_same _ _ _ (cset (by omega) c1)))
  · exact cset (by omega) (World.cell?_setCell_same _ _ _ (cset (by omega) (cset (by omega) h.c0)))
  · exact World.cell?_setCell_same _ _ _ (cset (by omega) (cset (by omega) (cset (by omega) h.c1)))
  · exact cset (by omega) (cset (by omega) (cset (by omega) (cset (by omega) h.c2)))
  · exact cset (by omega) (cset (by omega) (cset (by omega) (cset (by omega) h.c3)))
theorem recNew0 (w : World) : ∃ W0, W0 = (w.alloc (.cells #[] 2)).alloc (.cells #[.int .i64 0, .int .i64 0, .slice (some ⟨w.heap.size, 0, none⟩) 0 0, .bool false] 90) ∧
    RecM 0 (stk []) w.heap.size (w.heap.size + 1) W0 (startR 0 0) (.slice (some ⟨w.heap.size, 0, none⟩) 0 0) (.slice (some ⟨w.heap.size, 0, none⟩) 0 0) ∧ Below w.heap.size w W0 := by
  refine ⟨_, rfl, ⟨by omega, by simp, fun j hj => absurd hj (by omega), by go_simp; rfl, by go_simp; rfl, by go_simp, by go_simp; rfl, fun j hj => ?_, ?_, by simp [Value.ownBlock], ⟨_, _, _, rfl⟩, fun k hk => hk.elim⟩, ((Below.refl _ _).al _).al _⟩
  · match j, hj with
    | 0, _ => go_simp
    | 1, _ => go_simp
    | 2, _ => go_simp
    | 3, _ => go_simp
  · exact (OwnI.made rfl rfl (Nat.le_refl _)).al _
theorem recNew2 (w : World) : ∃ W0, W0 = (w.alloc (.cells #[] 2)).alloc (.cells #[.int .i64 0, .int .i64 0, .int .i64 0, .int .i64 0, .slice (some ⟨w.heap.size, 0, none⟩) 0 0, .bool false] 79) ∧
    RecM 2 (stk [.int .i64 0, .int .i64 0]) w.heap.size (w.heap.size + 1) W0 (startR 0 0) (.slice (some ⟨w.heap.size, 0, none⟩) 0 0) (.slice (some ⟨w.heap.size, 0, none⟩) 0 0) ∧ Below w.heap.size w W0 := by
  refine ⟨_, rfl, ⟨by omega, by simp, fun j hj => ?_, by go_simp; rfl, by go_simp; rfl, by go_simp, by go_simp; rfl, fun j hj => ?_, ?_, by simp [Value.ownBlock], ⟨_, _, _, rfl⟩, fun k hk => hk.elim⟩, ((Below.refl _ _).al _).al _⟩
  · match j, hj with
    | 0, _ => (go_simp; rfl)
    | 1, _ => (go_simp; rfl)
  · match j, hj with
    | 0, _ => go_simp
    | 1, _ => go_simp
    | 2, _ => go_simp
    | 3, _ => go_simp
    | 4, _ => go_simp
    | 5, _ => go_simp
  · exact (OwnI.made rfl rfl (Nat.le_refl _)).al _
set_option maxHeartbeats 16000000 in
set_option maxRecDepth 100000 in
theorem c_spec_l27Run (X : List ByteArray) (v : Value) (w : World) (hr : RdRow 1 rowT w v X) (hX : X.length ≤ 1000) (hz : ∀ s ∈ X, s.size ≤ 2000000) :
    Calls Tryz.prog 59 #[v] w fun e w' => RunP 0 X w e w' := by
  obtain ⟨W0, hW0, M0, B0⟩ := recNew0 w
  have hs0 : w.heap.size + 2 = W0.heap.size := by rw [hW0]; simp
  have HM0 := Lib.hid M0
  have HB0 := Lib.hid B0
  have HS0 := Lib.hid hs0
  have hr0 := rdRow_below hr B0
  have hr00 := hr
  obtain ⟨av, cv, rfl, hXl, -⟩ := hr
  have HZ := Lib.hid hz
  clear M0 B0 hs0 hz
  cases X with
  | nil =>
    go_enter Tryz.func59, Tryz.ntmps59
    go_wp2_with fail
    rw [← hW0]
    clear hW0
    go_wp2
    go_ret3
    exact ⟨w.heap.size + 1, rfl, HB0.out, fun h => h.elim (fun h => absurd (show (1 : Int) = 0 from h) (by decide)) (fun h => absurd (show (1 : Int) = 6 from h.1) (by decide))⟩
  | cons s ls =>
    have hsz := HZ.out s (by simp)
    obtain ⟨b0, o0, rfl, y0⟩ := rdT_at hr0 0 (by simp)
    have y0 : W0.cell? ⟨b0, o0, none⟩ = some (.string s) := y0
    have yw : w.cell? ⟨b0, o0, none⟩ = some (.string s) := by
      obtain ⟨b', o', he', y'⟩ := rdT_at hr00 0 (by simp)
      cases he'
      exact y'
    have hb0w : b0 < w.heap.size := World.block_lt_of_cell? w _ yw
    have yz : ∀ o1 o2, ((w.alloc o1).alloc o2).cell? ⟨b0, o0, none⟩ = some (.string s) := fun o1 o2 => al_c o2 (al_c o1 yw)
    have hbn0 : b0 ≠ w.heap.size := by omega
    have hbn1 : b0 ≠ w.heap.size + 1 := by omega
    have HRR := Lib.hid hr00
    have hXn : (((s :: ls).length : Int) == 0) = false := beq_eq_false_iff_ne.2 (by simp only [List.length_cons]; omega)
    have hXp : (0 : Int) < ((s :: ls).length : Int) := by simp only [List.length_cons]; omega
    have HLC : Hid ((s :: ls).length = ls.length + 1) := rfl
    obtain ⟨N, hN⟩ : ∃ N, Hid ((s :: ls).length = N) := ⟨_, Lib.hid rfl⟩
    rw [hN.out] at hX hXl hXn hXp HLC ⊢
    have HNL : Hid (N = ls.length + 1) := HLC.out
    clear hr0 hr00
    go_enter Tryz.func59, Tryz.ntmps59
    go_wp2_with fail
    rw [← hW0]
    clear hW0
    go_wp2_with fail
    refine (c_spec_l27After s ⟨#[115, 116, 97, 114, 116]⟩ _ (by omega) (by decide) (by decide)).mono ?_; rintro e w1 ⟨t, b, rfl, hy, hn, rfl⟩
    cases b
    · obtain ⟨rfl, hn1⟩ := hn rfl
      have HF := Lib.hid (runF_none (ls := ls) (start_no (p := ⟨#[115, 116, 97, 114, 116]⟩) rfl hn1))
      clear hy hn hn1
      go_wp2_with fail
      refine (c_spec_ReadState ⟨#[]⟩ _ (by decide)).mono ?_; rintro e w2 ⟨rfl, hb2⟩
      have B2 := HB0.out.trans (hb2.mono (by have := HS0.out; omega))
      have hs2 := hb2.size
      have hS0 := HS0.out
      go_wp2
      go_ret3
      exact ⟨w.heap.size + 1, by rw [HF.out]; rfl, B2.alloc (by omega) _, by rw [HF.out]; exact fun h => h.elim (fun h => absurd (show (1 : Int) = 0 from h) (by decide)) (fun h => absurd (show (1 : Int) = 6 from h.1) (by decide))⟩
    · obtain ⟨hy1, hts⟩ := hy rfl
      have HST := Lib.hid (start_cut hy1)
      clear hy hn hy1
      go_wp2_with fail
      refine (c_spec_ReadState t _ (by omega)).mono ?_; rintro e w2 ⟨rfl, hb2⟩
      have hS0 := HS0.out
      have B2 := HB0.out.trans (hb2.mono (by omega))
      have hs2 := hb2.size
      cases hrs : rsB t
      · have HF := Lib.hid (runF_none (ls := ls) (s := s) (by rw [HST.out, if_neg (by rw [hrs]; simp)]))
        go_wp2
        go_ret3
        exact ⟨w.heap.size + 1, by rw [HF.out]; rfl, B2.alloc (by omega) _, by rw [HF.out]; exact fun h => h.elim (fun h => absurd (show (1 : Int) = 0 from h) (by decide)) (fun h => absurd (show (1 : Int) = 6 from h.1) (by decide))⟩
      · have HSS : Hid (startF s = some ((t.size : Int), rsM t t.size)) := by unfold Hid; rw [HST.out, if_pos ⟨rfl, hrs⟩]
        obtain ⟨H, hH⟩ : ∃ H : Int, Hid ((t.size : Int) = H) := ⟨_, Lib.hid rfl⟩
        obtain ⟨m, hm⟩ : ∃ m, Hid (rsM t t.size = m) := ⟨_, Lib.hid rfl⟩
        simp only [cond_true]
        rw [hH.out, hm.out] at HSS ⊢
        have HV := Lib.hid (start_valid HSS.out)
        have HF := Lib.hid (runF_some (ls := ls) HSS.out)
        have HC := Lib.hid (startC_some (ls := ls) HSS.out)
        obtain ⟨W3, hW3, k0, k1, B3⟩ := oneState w2 25 H m
        have M3 := (HM0.out.below hb2).below B3
        have BR3 : Below w.heap.size w W3 := B2.trans (B3.mono (by omega))
        have d0 : W3.cell? ⟨w.heap.size + 1, 0, none⟩ = some (.int .i64 0) := M3.c0
        have d1 : W3.cell? ⟨w.heap.size + 1, 1, none⟩ = some (.int .i64 0) := M3.c1
        have f0 : W3.frozen? ⟨w.heap.size + 1, 0, none⟩ = false := M3.fz 0 (by omega)
        have f1 : W3.frozen? ⟨w.heap.size + 1, 1, none⟩ = false := M3.fz 1 (by omega)
        have M4 : RecM 0 (startC (s :: ls)) w.heap.size (w.heap.size + 1) ((W3.setCell ⟨w.heap.size + 1, 0, none⟩ (.int .i64 H)).setCell ⟨w.heap.size + 1, 1, none⟩ (.int .i64 m)) (startR H m) _ _ := M3.start0 H m (startC (s :: ls)) (startC_K _)
        have BR4 : Below w.heap.size w ((W3.setCell ⟨w.heap.size + 1, 0, none⟩ (.int .i64 H)).setCell ⟨w.heap.size + 1, 1, none⟩ (.int .i64 m)) := (BR3.setCell (p := ⟨w.heap.size + 1, 0, none⟩) (Nat.le_succ _) _).setCell (p := ⟨w.heap.size + 1, 1, none⟩) (Nat.le_succ _) _
        have HM4 := Lib.hid M4
        have HB4 := Lib.hid BR4
        clear M4 BR4 M3 BR3 B3
        rw [hW3] at d0 d1 f0 f1
        go_wp2_with fail
        rw [← hW3]
        clear hW3 d0 d1 f0 f1
        obtain ⟨g, hg⟩ : ∃ g, w.heap.size + 1 = g := ⟨_, rfl⟩
        rw [hg] at HM4 HB4 ⊢
        clear hg
        generalize ((W3.setCell ⟨g, 0, none⟩ (.int .i64 H)).setCell ⟨g, 1, none⟩ (.int .i64 m)) = W4 at *
        clear k0 k1
        obtain ⟨F, hF⟩ : ∃ F, Hid (runF (s :: ls) = F) := ⟨_, Lib.hid rfl⟩
        rw [hF.out] at HF
        go_loopw [10] (fun i wr => ∃ k : Nat, k ≤ ls.length ∧ i = .int .i64 ((k : Int) + 1) ∧ ∃ R : Rc, Hid (F = runL R (ls.drop k) ((k : Int) + 1)) ∧ validB R.h R.m = true ∧ R.xs.length ≤ 240 * k ∧ ∃ v, RecM 0 (startC (s :: ls)) w.heap.size g wr R v v ∧ Below w.heap.size w wr) (fun i _ => N - (intOf i).toNat)
        case atStart => exact ⟨0, by omega, by go_num, startR H m, HF.out, HV.out, by simp [startR], _, HM4.out, HB4.out⟩
        case round =>
          obtain ⟨k, hk, rfl, R, HR, hv, hxl, v, M, BR⟩ := hrel
          have hbs := BR.size
          have HVV := Lib.hid hv
          by_cases hlt : k < ls.length
          · obtain ⟨b', o', he', y'⟩ := rdT_at HRR.out (k + 1) (by simp only [List.length_cons]; omega)
            cases he'
            have hgl : (s :: ls)[k + 1]'(by simp only [List.length_cons]; omega) = ls.getD k ⟨#[]⟩ := by simp [List.getD, hlt]
            rw [hgl] at y'
            have yk := keepc BR y'
            have hsk : (ls.getD k ⟨#[]⟩).size ≤ 2000000 := by
              have e : ls.getD k ⟨#[]⟩ = ls[k] := by simp [List.getD, hlt]
              rw [e]
              exact HZ.out _ (List.mem_cons_of_mem _ (List.getElem_mem hlt))
            have HOK := Lib.hid (fun h => runL_ok (R := R) (ls := ls) (k := k) (i := (k : Int) + 1) hlt h)
            have HNO := Lib.hid (fun h => runL_no (R := R) (ls := ls) (k := k) (i := (k : Int) + 1) hlt h)
            have HLO := Lib.hid (fun h => lineF_ok (R := R) (s := ls.getD k ⟨#[]⟩) hv h)
            obtain ⟨sk, hsk'⟩ : ∃ sk, ls.getD k ⟨#[]⟩ = sk := ⟨_, rfl⟩
            rw [hsk'] at yk hsk HOK HNO HLO
            clear hsk' hgl y'
            have hk0 : (0 : Int) ≤ (k : Int) + 1 := by omega
            have hk1 : (k : Int) + 1 < (N : Int) := by have := HNL.out; omega
            have y2 : wr.cell? ⟨b0, o0 + (k + 1), none⟩ = some (.string sk) := yk
            clear yk
            go_wp2_with fail
            refine (c_spec_l27R_line (startC (s :: ls)) w.heap.size g R sk v _ M hv hsk (by omega) hbs).mono ?_; rintro e w5 ⟨rfl, hb5, hm5⟩
            have BR5 := BR.trans hb5
            by_cases hz0 : (lineF R sk).1 = 0
            · have HN := Lib.hid (HR.out.trans (HOK.out hz0))
              obtain ⟨v5, M5⟩ := hm5 hz0
              obtain ⟨hv5, hx5⟩ := HLO.out hz0
              rw [hz0]
              go_wp2
              go_roundw
              case rel => exact ⟨k + 1, by omega, by go_num, _, HN.out, hv5, by omega, v5, M5, BR5⟩
              case measure => simp [intOf]; omega
            · have HN := Lib.hid (HR.out.trans (HNO.out hz0))
              have hzb : ((lineF R sk).1 == 0) = false := beq_eq_false_iff_ne.2 hz0
              obtain ⟨fl, hfl⟩ : ∃ fl, (lineF R sk).1 = fl := ⟨_, rfl⟩
              rw [hfl] at HN hz0 hzb ⊢
              clear hfl
              go_wp2
              go_ret3
              refine ⟨g, by rw [hF.out, HN.out]; rfl, BR5, ?_⟩
              rw [hF.out, HN.out]
              rintro (h | h)
              · exact absurd h hz0
              · have h2 : ((k : Int) + 1) = (((s :: ls).length : Nat) : Int) := h.2
                rw [List.length_cons] at h2
                omega
          · obtain rfl : k = ls.length := by omega
            have HN := Lib.hid (HR.out.trans runL_end)
            have hkn : ¬ ((ls.length : Int) + 1 < (N : Int)) := by have := HNL.out; omega
            have HNI : Hid ((N : Int) = (ls.length : Int) + 1) := by unfold Hid; have := HNL.out; omega
            have c3 : wr.cell? ⟨g, 2, none⟩ = some (.bool false) ∨ wr.cell? ⟨g, 2, none⟩ = some (.bool true) ∨ True := Or.inr (Or.inr trivial)
            have c2 : wr.cell? ⟨g, 3, none⟩ = some (.bool R.e) := M.c3
            clear c3
            cases hE : R.e
            · rw [hE] at c2
              have HN2 : Hid (F = ((ls.length : Int) + 1, 6, R)) := by unfold Hid; rw [HN.out, hE]; rfl
              go_wp2
              go_ret3
              exact ⟨g, by rw [hF.out, HN2.out, ← HNI.out]; rfl, BR, by rw [hF.out, HN2.out]; exact fun _ => ⟨HVV.out, v, M⟩⟩
            · rw [hE] at c2
              have HN2 : Hid (F = (-1, 0, R)) := by unfold Hid; rw [HN.out, hE]; rfl
              go_wp2
              go_ret3
              exact ⟨g, by rw [hF.out, HN2.out]; rfl, BR, by rw [hF.out, HN2.out]; exact fun _ => ⟨HVV.out, v, M⟩⟩
end Go.Proofs.YtioemkdapoombaaGreatDoor
end
section
namespace Go.Proofs.YtioemkdapoombaaGreatDoor
open Go.ChangeShapes Go.WideShapes Go.ChangeAt Go.RowKit
set_option linter.unusedSimpArgs false
set_option linter.unusedVariables false
theorem RdTC.row {w : World} {v : Value} {X : List ByteArray} (h : RdTC w v X) : RdRow 1 rowT w v X := h.1
theorem start_word {s p : ByteArray} {ws : List ByteArray} (h : words s = p :: ws) (hp : bl p ≠ staW) : startF s = none := by
  unfold startF
  rw [h]
  split
  · rename_i q t hw
    injection hw with h1 h2
    subst h1
    rw [if_neg (fun hh => hp hh.1)]
  · rfl
theorem rs_empty : rsB ⟨#[]⟩ = false := rfl
set_option maxHeartbeats 16000000 in
set_option maxRecDepth 100000 in
theorem c_impl_runRecord (X : List ByteArray) (v : Value) (w : World) (hrc : RdTC w v X) (hX : X.length ≤ 1000) (hz : ∀ s ∈ X, s.size ≤ 2000000) (ht : Tab w) :
    Calls Tryz.prog 58 #[v] w fun e w' => RunP 2 X w e w' := by
  obtain ⟨W0, hW0, M0, B0⟩ := recNew2 w
  have hs0 : w.heap.size + 2 = W0.heap.size := by rw [hW0]; simp
  have HM0 := Lib.hid M0
  have HB0 := Lib.hid B0
  have HS0 := Lib.hid hs0
  have HT0 := Lib.hid (tab_below ht B0)
  have HT := Lib.hid ht
  have hrc0 := hrc.below B0
  have hr := hrc.1
  have hr0 := rdRow_below hr B0
  have hr00 := hr
  obtain ⟨av, cv, rfl, hXl, -⟩ := hr
  have HZ := Lib.hid hz
  clear M0 B0 hs0 hz ht
  cases X with
  | nil =>
    go_enter Tryz.func58, Tryz.ntmps58
    go_wp2_with fail
    rw [← hW0]
    clear hW0
    go_wp2
    go_ret3
    exact ⟨w.heap.size + 1, rfl, HB0.out, fun h => h.elim (fun h => absurd (show (1 : Int) = 0 from h) (by decide)) (fun h => absurd (show (1 : Int) = 6 from h.1) (by decide))⟩
  | cons s ls =>
    have hsz := HZ.out s (by simp)
    obtain ⟨b0, o0, rfl, y0⟩ := rdT_at hr0 0 (by simp)
    have y0 : W0.cell? ⟨b0, o0, none⟩ = some (.string s) := y0
    have yw : w.cell? ⟨b0, o0, none⟩ = some (.string s) := by
      obtain ⟨b', o', he', y'⟩ := rdT_at hr00 0 (by simp)
      cases he'
      exact y'
    have hb0w : b0 < w.heap.size := World.block_lt_of_cell? w _ yw
    have yz : ∀ o1 o2, ((w.alloc o1).alloc o2).cell? ⟨b0, o0, none⟩ = some (.string s) := fun o1 o2 => al_c o2 (al_c o1 yw)
    have hbn0 : b0 ≠ w.heap.size := by omega
    have hbn1 : b0 ≠ w.heap.size + 1 := by omega
    obtain ⟨u, hsl, hru⟩ := cutT_l hrc 1 (by omega) (by simp only [List.length_cons]; omega)
    have hru : RdTC w u ls := hru
    obtain ⟨au, cu, rfl, -⟩ := id hru.2
    have HRC := Lib.hid hru
    clear hru
    have hXn : (((s :: ls).length : Int) == 0) = false := beq_eq_false_iff_ne.2 (by simp only [List.length_cons]; omega)
    have hXp : (0 : Int) < ((s :: ls).length : Int) := by simp only [List.length_cons]; omega
    have HLC : Hid ((s :: ls).length = ls.length + 1) := rfl
    obtain ⟨N, hN⟩ : ∃ N, Hid ((s :: ls).length = N) := ⟨_, Lib.hid rfl⟩
    rw [hN.out] at hX hXl hXn hXp HLC hsl ⊢
    have HNL : Hid (N = ls.length + 1) := HLC.out
    clear hr0 hr00 hrc0 hrc
    go_enter Tryz.func58, Tryz.ntmps58
    go_wp2_with fail
    rw [← hW0]
    clear hW0
    go_wp2_with fail
    refine (c_impl_cut s _ (by omega)).mono ?_; rintro e w1 ⟨k, hk, hn, hh, hb1⟩
    have hS0 := HS0.out
    have B1 := HB0.out.trans (hb1.mono (by omega))
    have M1 := HM0.out.below hb1
    have hs1 := hb1.size
    have T1 := Lib.hid (tab_below HT0.out hb1)
    have HN := Lib.hid hn
    clear hn
    obtain ⟨wd, tx, fd, hE1, HW⟩ : ∃ (wd tx : ByteArray) (fd : Bool), e = .returned (.tuple #[.string wd, .string tx, .bool fd]) ∧ Hid (tx.size ≤ s.size ∧ ((bl wd ≠ staW ∨ rsB tx = false) → startF s = none) ∧ (bl wd = staW → rsB tx = true → startF s = some ((tx.size : Int), rsM tx tx.size))) := by
      rcases hh with ⟨hkl, hc, rfl⟩ | ⟨rfl, rfl⟩
      · refine ⟨_, _, _, rfl, ?_⟩
        have hw := words_cut hkl hc HN.out
        refine ⟨by rw [ext_size _ _ _ (Nat.le_refl _)]; omega, ?_, fun h1 h2 => by rw [start_cut hw, if_pos ⟨h1, h2⟩]⟩
        rintro (h | h)
        · exact start_word hw h
        · rw [start_cut hw, if_neg (by rw [h]; simp)]
      · refine ⟨_, _, _, rfl, by show 0 ≤ _; omega, fun _ => start_one (words_end HN.out), fun _ h => by rw [rs_empty] at h; cases h⟩
    subst hE1
    clear hh hk
    have htz := HW.out.1
    have HTL := Lib.hid (tl_bl wd)
    go_wp2_with fail
    refine (c_impl_ReadState tx _ (by omega)).mono ?_; rintro e w2 ⟨rfl, hb2⟩
    have B2 := B1.trans (hb2.mono (by omega))
    have hs2 := hb2.size
    have T2 := Lib.hid (tab_below T1.out hb2)
    have M2 := M1.below hb2
    have bad : startF s = none → ∀ W' : World, Below w.heap.size w W' → RunP 2 (s :: ls) w (.returned (.tuple #[.pointer (some ⟨w.heap.size + 1, 0, none⟩), .int .i64 0, .int .i64 1])) W' := fun h W' hb' =>
      ⟨w.heap.size + 1, by rw [runF_none h], hb', by rw [runF_none h]; exact fun h => h.elim (fun h => absurd (show (1 : Int) = 0 from h) (by decide)) (fun h => absurd (show (1 : Int) = 6 from h.1) (by decide))⟩
    have BAD := Lib.hid bad
    clear bad
    cases hwd : (wd.toList == [115, 116, 97, 114, 116])
    · have hne : bl wd ≠ staW := by
        rw [HTL.out] at hwd
        exact beq_eq_false_iff_ne.1 hwd
      have HX := Lib.hid (BAD.out (HW.out.2.1 (Or.inl hne)))
      go_wp2
      all_goals (go_ret3; exact HX.out _ (by (repeat (first | (with_reducible assumption) | (with_reducible exact Below.refl _ _) | (with_reducible refine Below.setCell ?_ (by first | (simp; done) | (simp; omega)) _) | (with_reducible refine Below.al ?_ _) | (with_reducible refine Below.dr ?_) | (with_reducible refine Below.drN ?_ _) | (with_reducible refine Below.tr ?_ (by with_reducible assumption))))))
    · have hwe : bl wd = staW := by
        rw [HTL.out] at hwd
        exact eq_of_beq hwd
      cases hrs : rsB tx
      · have HX := Lib.hid (BAD.out (HW.out.2.1 (Or.inr hrs)))
        go_wp2
        go_ret3
        exact HX.out _ (B2.alloc (by omega) _)
      · have HSS : Hid (startF s = some ((tx.size : Int), rsM tx tx.size)) := HW.out.2.2 hwe hrs
        obtain ⟨H, hH⟩ : ∃ H : Int, Hid ((tx.size : Int) = H) := ⟨_, Lib.hid rfl⟩
        obtain ⟨m, hm⟩ : ∃ m, Hid (rsM tx tx.size = m) := ⟨_, Lib.hid rfl⟩
        simp only [cond_true]
        rw [hH.out, hm.out] at HSS ⊢
        have HV := Lib.hid (start_valid HSS.out)
        have HF := Lib.hid (runF_some (ls := ls) HSS.out)
        have HC := Lib.hid (startC_some (ls := ls) HSS.out)
        obtain ⟨W3, hW3, k0, k1, B3⟩ := oneState w2 25 H m
        have M3 := M2.below B3
        have BR3 : Below w.heap.size w W3 := B2.trans (B3.mono (by omega))
        have T3 := Lib.hid (tab_below T2.out B3)
        have d0 : W3.cell? ⟨w.heap.size + 1, 0, none⟩ = some (.int .i64 0) := M3.cs 0 (by omega)
        have d1 : W3.cell? ⟨w.heap.size + 1, 1, none⟩ = some (.int .i64 0) := M3.cs 1 (by omega)
        have d2 : W3.cell? ⟨w.heap.size + 1, 2, none⟩ = some (.int .i64 0) := M3.c0
        have d3 : W3.cell? ⟨w.heap.size + 1, 3, none⟩ = some (.int .i64 0) := M3.c1
        have f0 : W3.frozen? ⟨w.heap.size + 1, 0, none⟩ = false := M3.fz 0 (by omega)
        have f1 : W3.frozen? ⟨w.heap.size + 1, 1, none⟩ = false := M3.fz 1 (by omega)
        have f2 : W3.frozen? ⟨w.heap.size + 1, 2, none⟩ = false := M3.fz 2 (by omega)
        have f3 : W3.frozen? ⟨w.heap.size + 1, 3, none⟩ = false := M3.fz 3 (by omega)
        have M4 := M3.start2 H m
        rw [← HC.out] at M4
        have M4 : RecM 2 (startC (s :: ls)) w.heap.size (w.heap.size + 1) ((((W3.setCell ⟨w.heap.size + 1, 0, none⟩ (.int .i64 H)).setCell ⟨w.heap.size + 1, 1, none⟩ (.int .i64 m)).setCell ⟨w.heap.size + 1, 2, none⟩ (.int .i64 H)).setCell ⟨w.heap.size + 1, 3, none⟩ (.int .i64 m)) (startR H m) _ _ := M4
        have BR4 : Below w.heap.size w ((((W3.setCell ⟨w.heap.size + 1, 0, none⟩ (.int .i64 H)).setCell ⟨w.heap.size + 1, 1, none⟩ (.int .i64 m)).setCell ⟨w.heap.size + 1, 2, none⟩ (.int .i64 H)).setCell ⟨w.heap.size + 1, 3, none⟩ (.int .i64 m)) := (((BR3.setCell (p := ⟨w.heap.size + 1, 0, none⟩) (Nat.le_succ _) _).setCell (p := ⟨w.heap.size + 1, 1, none⟩) (Nat.le_succ _) _).setCell (p := ⟨w.heap.size + 1, 2, none⟩) (Nat.le_succ _) _).setCell (p := ⟨w.heap.size + 1, 3, none⟩) (Nat.le_succ _) _
        have HM4 := Lib.hid M4
        have HB4 := Lib.hid BR4
        clear M4 BR4 M3 BR3 B3
        go_wp2_with fail
        rw [← hW3]
        clear hW3
        have hgw : w.heap.size + 1 < w2.heap.size := by omega
        obtain ⟨g, hg⟩ : ∃ g, w.heap.size + 1 = g := ⟨_, rfl⟩
        rw [hg] at HM4 HB4 d0 d1 d2 d3 f0 f1 f2 f3 hgw ⊢
        clear hg
        obtain ⟨q, hq⟩ : ∃ q, w2.heap.size = q := ⟨_, rfl⟩
        rw [hq] at hgw k0 k1 ⊢
        have hgn : g ≠ q := by omega
        have hgn2 : q ≠ g := by omega
        go_region_held3 (fun w' => w'.cell? ⟨q, 0, none⟩ = some (.int .i64 H) ∧ w'.cell? ⟨q, 1, none⟩ = some (.int .i64 m))
          (go_keep)
          (fail)
        generalize ((((W3.setCell ⟨g, 0, none⟩ (.int .i64 H)).setCell ⟨g, 1, none⟩ (.int .i64 m)).setCell ⟨g, 2, none⟩ (.int .i64 H)).setCell ⟨g, 3, none⟩ (.int .i64 m)) = W4 at *
        clear k0 k1
        obtain ⟨F, hF⟩ : ∃ F, Hid (runF (s :: ls) = F) := ⟨_, Lib.hid rfl⟩
        rw [hF.out] at HF
        go_wp2_with (first | ((rw [hsl _])))
        have HB5 : Hid (Below w.heap.size w W4.drew) := HB4.out.drN 1
        have HM5 : Hid (RecM 2 (startC (s :: ls)) w.heap.size g W4.drew (startR H m) (.slice (some ⟨w.heap.size, 0, none⟩) 0 0) (.slice (some ⟨w.heap.size, 0, none⟩) 0 0)) := HM4.out.below ((Below.refl _ _).drN 1)
        generalize W4.drew = W5 at *
        clear HB4 HM4 T2 T3 B2 M2 hb1 hb2 HW HTL hwd hrs M1 B1 HM0 HT0 d0 d1 d2 d3 f0 f1 f2 f3 hgn hgn2 BAD
        go_loopw [52] (fun i wr => ∃ k : Nat, k ≤ ls.length ∧ i = .int .i64 (k : Int) ∧ ∃ R : Rc, Hid (F = runL R (ls.drop k) ((k : Int) + 1)) ∧ validB R.h R.m = true ∧ R.xs.length ≤ 240 * k ∧ ∃ v, RecM 2 (startC (s :: ls)) w.heap.size g wr R v v ∧ Below w.heap.size w wr) (fun i _ => ls.length - (intOf i).toNat)
        case atStart => exact ⟨0, by omega, by go_num, startR H m, HF.out, HV.out, by simp [startR], _, HM5.out, HB5.out⟩
        case round =>
          obtain ⟨k, hk, rfl, R, HR, hv, hxl, v, M, BR⟩ := hrel
          have hbs := BR.size
          have HVV := Lib.hid hv
          by_cases hlt : k < ls.length
          · obtain ⟨bq, oq, rfl, y'⟩ := rdT_at HRC.out.1 k hlt
            have hgl : ls[k]'hlt = ls.getD k ⟨#[]⟩ := by simp [List.getD, hlt]
            rw [hgl] at y'
            have yk := keepc BR y'
            have hsk : (ls.getD k ⟨#[]⟩).size ≤ 2000000 := by
              rw [← hgl]
              exact HZ.out _ (List.mem_cons_of_mem _ (List.getElem_mem hlt))
            have HOK := Lib.hid (fun h => runL_ok (R := R) (ls := ls) (k := k) (i := (k : Int) + 1) hlt h)
            have HNO := Lib.hid (fun h => runL_no (R := R) (ls := ls) (k := k) (i := (k : Int) + 1) hlt h)
            have HLO := Lib.hid (fun h => lineF_ok (R := R) (s := ls.getD k ⟨#[]⟩) hv h)
            obtain ⟨sk, hsk'⟩ : ∃ sk, ls.getD k ⟨#[]⟩ = sk := ⟨_, rfl⟩
            rw [hsk'] at yk hsk HOK HNO HLO
            clear hsk' hgl y'
            have hk0 : (0 : Int) ≤ (k : Int) := by omega
            have hk1 : (k : Int) < (ls.length : Int) := by omega
            have hl1000 : ls.length ≤ 1000 := by have := HNL.out; omega
            go_wp2_with fail
            refine (c_impl_record_line (startC (s :: ls)) w.heap.size g R sk v _ M hv hsk (by have := HNL.out; omega) hbs (tab_below HT.out BR)).mono ?_; rintro e w5 ⟨rfl, hb5, hm5⟩
            have BR5 := BR.trans hb5
            by_cases hz0 : (lineF R sk).1 = 0
            · have HN := Lib.hid (HR.out.trans (HOK.out hz0))
              obtain ⟨v5, M5⟩ := hm5 hz0
              obtain ⟨hv5, hx5⟩ := HLO.out hz0
              rw [hz0]
              go_wp2
              go_roundw
              case rel => exact ⟨k + 1, by omega, by go_num, _, HN.out, hv5, by omega, v5, M5, BR5⟩
              case measure => simp [intOf]; omega
            · have HN := Lib.hid (HR.out.trans (HNO.out hz0))
              have hzb : ((lineF R sk).1 == 0) = false := beq_eq_false_iff_ne.2 hz0
              obtain ⟨fl, hfl⟩ : ∃ fl, (lineF R sk).1 = fl := ⟨_, rfl⟩
              rw [hfl] at HN hz0 hzb ⊢
              clear hfl
              go_wp2
              go_ret3
              refine ⟨g, by rw [hF.out, HN.out]; rfl, by (repeat (first | (with_reducible assumption) | (with_reducible exact Below.refl _ _) | (with_reducible refine Below.setCell ?_ (by first | (simp; done) | (simp; omega)) _) | (with_reducible refine Below.al ?_ _) | (with_reducible refine Below.dr ?_) | (with_reducible refine Below.drN ?_ _) | (with_reducible refine Below.tr ?_ (by with_reducible assumption)))), ?_⟩
              rw [hF.out, HN.out]
              rintro (h | h)
              · exact absurd h hz0
              · have h2 : ((k : Int) + 1) = (((s :: ls).length : Nat) : Int) := h.2
                rw [List.length_cons] at h2
                omega
          · obtain rfl : k = ls.length := by omega
            have HN := Lib.hid (HR.out.trans runL_end)
            have HNI : Hid ((N : Int) = (ls.length : Int) + 1) := by unfold Hid; have := HNL.out; omega
            have c2 : wr.cell? ⟨g, 5, none⟩ = some (.bool R.e) := M.c3
            cases hE : R.e
            · rw [hE] at c2
              have HN2 : Hid (F = ((ls.length : Int) + 1, 6, R)) := by unfold Hid; rw [HN.out, hE]; rfl
              go_wp2
              go_ret3
              exact ⟨g, by rw [hF.out, HN2.out, ← HNI.out]; rfl, by (repeat (first | (with_reducible assumption) | (with_reducible exact Below.refl _ _) | (with_reducible refine Below.setCell ?_ (by first | (simp; done) | (simp; omega)) _) | (with_reducible refine Below.al ?_ _) | (with_reducible refine Below.dr ?_) | (with_reducible refine Below.drN ?_ _) | (with_reducible refine Below.tr ?_ (by with_reducible assumption)))), by rw [hF.out, HN2.out]; exact fun _ => ⟨HVV.out, v, M.below (by (repeat (first | (with_reducible assumption) | (with_reducible exact Below.refl _ _) | (with_reducible refine Below.setCell ?_ (by first | (simp; done) | (simp; omega)) _) | (with_reducible refine Below.al ?_ _) | (with_reducible refine Below.dr ?_) | (with_reducible refine Below.drN ?_ _) | (with_reducible refine Below.tr ?_ (by with_reducible assumption)))))⟩⟩
            · rw [hE] at c2
              have HN2 : Hid (F = (-1, 0, R)) := by unfold Hid; rw [HN.out, hE]; rfl
              go_wp2
              go_ret3
              exact ⟨g, by rw [hF.out, HN2.out]; rfl, by (repeat (first | (with_reducible assumption) | (with_reducible exact Below.refl _ _) | (with_reducible refine Below.setCell ?_ (by first | (simp; done) | (simp; omega)) _) | (with_reducible refine Below.al ?_ _) | (with_reducible refine Below.dr ?_) | (with_reducible refine Below.drN ?_ _) | (with_reducible refine Below.tr ?_ (by with_reducible assumption)))), by rw [hF.out, HN2.out]; exact fun _ => ⟨HVV.out, v, M.below (by (repeat (first | (with_reducible assumption) | (with_reducible exact Below.refl _ _) | (with_reducible refine Below.setCell ?_ (by first | (simp; done) | (simp; omega)) _) | (with_reducible refine Below.al ?_ _) | (with_reducible refine Below.dr ?_) | (with_reducible refine Below.drN ?_ _) | (with_reducible refine Below.tr ?_ (by with_reducible assumption)))))⟩⟩
end Go.Proofs.YtioemkdapoombaaGreatDoor
end
section
namespace Go.Proofs.YtioemkdapoombaaGreatDoor
open Go.ChangeShapes Go.WideShapes Go.ChangeAt Go.RowKit
set_option linter.unusedSimpArgs false
set_option linter.unusedVariables false
/-- the code of a record -/
def askC (X : List ByteArray) : Int := bif decide (60 < X.length) then 5 else (bif (runF X).2.1 == 0 then 0 else 8)
def ckA (X : List ByteArray) : Int := bif decide (60 < X.length) then 0 else (runF X).1
def ckK (X : List ByteArray) : Int := bif decide (60 < X.length) then 0 else (runF X).2.1
def ckC (X : List ByteArray) : Int := bif decide (60 < X.length) then 5 else 0
def rpH (X : List ByteArray) : Int := bif askC X == 0 then (runF X).2.2.h else 0
def rpM (X : List ByteArray) : Int := bif askC X == 0 then (runF X).2.2.m else 0
def rpN (X : List ByteArray) : Int := bif askC X == 0 then ((runF X).2.2.xs.length : Int) else 0
def thL (X : List ByteArray) : List Int := bif askC X == 0 then (runF X).2.2.xs else []
def AskP (o : Nat) (X : List ByteArray) (w0 : World) (e : Ending) (w' : World) : Prop := ∃ p, e = .returned (.tuple #[p, .int .i64 (askC X)]) ∧ Below w0.heap.size w0 w' ∧
  (askC X = 0 → ∃ g v, p = .pointer (some ⟨g, 0, none⟩) ∧ validB (runF X).2.2.h (runF X).2.2.m = true ∧ RecM o (startC X) w0.heap.size g w' (runF X).2.2 v v)
theorem ask_full {X : List ByteArray} (h : 60 < X.length) : askC X = 5 := by unfold askC; rw [decide_eq_true h]; rfl
theorem ask_ok {X : List ByteArray} (h : ¬ 60 < X.length) (h2 : (runF X).2.1 = 0) : askC X = 0 := by unfold askC; rw [decide_eq_false h, h2]; rfl
theorem ask_bad {X : List ByteArray} (h : ¬ 60 < X.length) (h2 : (runF X).2.1 ≠ 0) : askC X = 8 := by unfold askC; rw [decide_eq_false h, beq_eq_false_iff_ne.2 h2]; rfl
theorem ask_len {X : List ByteArray} (h : askC X = 0) : X.length ≤ 60 := by
  by_cases h1 : 60 < X.length
  · rw [ask_full h1] at h; cases h
  · omega
set_option maxHeartbeats 4000000 in
set_option maxRecDepth 100000 in
theorem c_spec_l27Ask (X : List ByteArray) (v : Value) (w : World) (hr : RdTC w v X) (hz : ∀ s ∈ X, s.size ≤ 2000000) :
    Calls Tryz.prog 60 #[v] w fun e w' => AskP 0 X w e w' := by
  have HR := Lib.hid hr
  have HZ := Lib.hid hz
  obtain ⟨⟨av, cv, rfl, hXl, -⟩, -⟩ := hr
  clear hz
  by_cases hl : 60 < X.length
  · have HC := Lib.hid (ask_full hl)
    have hl2 : (60 : Int) < (X.length : Int) := by omega
    go_enter Tryz.func60, Tryz.ntmps60
    go_wp2
    go_ret2
    exact ⟨_, by rw [HC.out]; rfl, (Below.refl _ _).al _, by rw [HC.out]; intro h; cases h⟩
  · have hl2 : ¬ (60 : Int) < (X.length : Int) := by omega
    go_enter Tryz.func60, Tryz.ntmps60
    go_wp2_with fail
    refine (c_spec_l27Run X _ _ HR.out.1 (by omega) HZ.out).mono ?_; rintro e w1 ⟨g, rfl, hb1, hm1⟩
    obtain ⟨F, hF⟩ : ∃ F, Hid ((runF X).2.1 = F) := ⟨_, Lib.hid rfl⟩
    rw [hF.out] at hm1 ⊢
    by_cases hz0 : F = 0
    · subst hz0
      obtain ⟨hv, v', M⟩ := hm1 (Or.inl rfl)
      have HC := Lib.hid (ask_ok hl hF.out)
      go_wp2
      go_ret2
      exact ⟨_, by rw [HC.out]; rfl, hb1, fun _ => ⟨g, v', rfl, hv, M⟩⟩
    · have HC := Lib.hid (ask_bad hl (by rw [hF.out]; exact hz0))
      have hzb : (F == 0) = false := beq_eq_false_iff_ne.2 hz0
      go_wp2
      go_ret2
      exact ⟨_, by rw [HC.out]; rfl, hb1, by rw [HC.out]; intro h; cases h⟩
set_option maxHeartbeats 4000000 in
set_option maxRecDepth 100000 in
theorem c_impl_wholeRecord (X : List ByteArray) (v : Value) (w : World) (hr : RdTC w v X) (hz : ∀ s ∈ X, s.size ≤ 2000000) (ht : Tab w) :
    Calls Tryz.prog 55 #[v] w fun e w' => AskP 2 X w e w' := by
  have HR := Lib.hid hr
  have HZ := Lib.hid hz
  have HT := Lib.hid ht
  obtain ⟨⟨av, cv, rfl, hXl, -⟩, -⟩ := hr
  clear hz ht
  by_cases hl : 60 < X.length
  · have HC := Lib.hid (ask_full hl)
    have hl2 : (60 : Int) < (X.length : Int) := by omega
    go_enter Tryz.func55, Tryz.ntmps55
    go_wp2
    go_ret2
    exact ⟨_, by rw [HC.out]; rfl, Below.refl _ _, by rw [HC.out]; intro h; cases h⟩
  · have hl2 : ¬ (60 : Int) < (X.length : Int) := by omega
    go_enter Tryz.func55, Tryz.ntmps55
    go_wp2_with fail
    refine (c_impl_runRecord X _ _ HR.out (by omega) HZ.out HT.out).mono ?_; rintro e w1 ⟨g, rfl, hb1, hm1⟩
    obtain ⟨F, hF⟩ : ∃ F, Hid ((runF X).2.1 = F) := ⟨_, Lib.hid rfl⟩
    rw [hF.out] at hm1 ⊢
    by_cases hz0 : F = 0
    · subst hz0
      obtain ⟨hv, v', M⟩ := hm1 (Or.inl rfl)
      have HC := Lib.hid (ask_ok hl hF.out)
      go_wp2
      go_ret2
      exact ⟨_, by rw [HC.out]; rfl, hb1, fun _ => ⟨g, v', rfl, hv, M⟩⟩
    · have HC := Lib.hid (ask_bad hl (by rw [hF.out]; exact hz0))
      have hzb : (F == 0) = false := beq_eq_false_iff_ne.2 hz0
      go_wp2
      go_ret2
      exact ⟨_, by rw [HC.out]; rfl, hb1, by rw [HC.out]; intro h; cases h⟩
theorem run_spec (X : List ByteArray) (v : Value) (w : World) (hr : RdTC w v X) (hX : X.length ≤ 1000) (hz : ∀ s ∈ X, s.size ≤ 2000000) (ht : Tab w) : Calls Tryz.prog 59 #[v] w fun e w' => RunP 0 X w e w' := c_spec_l27Run X v w hr.1 hX hz
theorem ask_spec (X : List ByteArray) (v : Value) (w : World) (hr : RdTC w v X) (hz : ∀ s ∈ X, s.size ≤ 2000000) (ht : Tab w) : Calls Tryz.prog 60 #[v] w fun e w' => AskP 0 X w e w' := c_spec_l27Ask X v w hr hz
theorem run_impl (X : List ByteArray) (v : Value) (w : World) (hr : RdTC w v X) (hX : X.length ≤ 1000) (hz : ∀ s ∈ X, s.size ≤ 2000000) (ht : Tab w) : Calls Tryz.prog 58 #[v] w fun e w' => RunP 2 X w e w' := c_impl_runRecord X v w hr hX hz ht
theorem ask_impl (X : List ByteArray) (v : Value) (w : World) (hr : RdTC w v X) (hz : ∀ s ∈ X, s.size ≤ 2000000) (ht : Tab w) : Calls Tryz.prog 55 #[v] w fun e w' => AskP 2 X w e w' := c_impl_wholeRecord X v w hr hz ht
set_option maxHeartbeats 4000000 in
theorem c_spec_CheckLines (X : List ByteArray) (v : Value) (w : World) (hr : RdTC w v X) (hz : ∀ s ∈ X, s.size ≤ 2000000) (ht : Tab w) :
    Calls Tryz.prog 20 #[v] w fun e w' => e = .returned (.tuple #[.int .i64 (ckA X), .int .i64 (ckK X), .int .i64 (ckC X)]) ∧ Below w.heap.size w w' := by
  have HR := Lib.hid hr
  have HZ := Lib.hid hz
  have HT := Lib.hid ht
  obtain ⟨⟨av, cv, rfl, hXl, -⟩, -⟩ := hr
  clear hz ht
  by_cases hl : 60 < X.length
  · have H1 : Hid (ckA X = 0) := by unfold Hid ckA; rw [decide_eq_true hl]; rfl
    have H2 : Hid (ckK X = 0) := by unfold Hid ckK; rw [decide_eq_true hl]; rfl
    have H3 : Hid (ckC X = 5) := by unfold Hid ckC; rw [decide_eq_true hl]; rfl
    have hl2 : (60 : Int) < (X.length : Int) := by omega
    go_enter Tryz.func20, Tryz.ntmps20
    go_wp2
    go_ret3
    exact ⟨by rw [H1.out, H2.out, H3.out]; rfl, Below.refl _ _⟩
  · have H1 : Hid (ckA X = (runF X).1) := by unfold Hid ckA; rw [decide_eq_false hl]; rfl
    have H2 : Hid (ckK X = (runF X).2.1) := by unfold Hid ckK; rw [decide_eq_false hl]; rfl
    have H3 : Hid (ckC X = 0) := by unfold Hid ckC; rw [decide_eq_false hl]; rfl
    have hl2 : ¬ (60 : Int) < (X.length : Int) := by omega
    go_enter Tryz.func20, Tryz.ntmps20
    go_wp2_with fail
    refine (run_spec X _ _ HR.out (by omega) HZ.out HT.out).mono ?_; rintro e w1 ⟨g, rfl, hb1, hm1⟩
    obtain ⟨F, hF⟩ : ∃ F, Hid ((runF X).2.1 = F) := ⟨_, Lib.hid rfl⟩
    obtain ⟨G, hG⟩ : ∃ G, Hid ((runF X).1 = G) := ⟨_, Lib.hid rfl⟩
    rw [hF.out, hG.out]
    clear hm1
    go_wp2
    go_ret3
    exact ⟨by rw [H1.out, H2.out, H3.out, hF.out, hG.out]; rfl, hb1⟩
set_option maxHeartbeats 4000000 in
theorem c_spec_ThrowsOf (X : List ByteArray) (v : Value) (w : World) (hr : RdTC w v X) (hz : ∀ s ∈ X, s.size ≤ 2000000) (ht : Tab w) :
    Calls Tryz.prog 22 #[v] w fun e w' => ∃ u, e = .returned (.tuple #[u, .int .i64 (askC X)]) ∧ OwnI1 w.heap.size w' u (thL X) ∧ Below w.heap.size w w' := by
  have HR := Lib.hid hr
  have HZ := Lib.hid hz
  have HT := Lib.hid ht
  clear hr hz ht
  go_enter Tryz.func22, Tryz.ntmps22
  go_wp2_with fail
  refine (ask_spec X _ _ HR.out HZ.out HT.out).mono ?_; rintro e w1 ⟨p, rfl, hb1, hm1⟩
  by_cases hz0 : askC X = 0
  · obtain ⟨g, v', rfl, hv, M⟩ := hm1 hz0
    have HL : Hid (thL X = (runF X).2.2.xs) := by unfold Hid thL; rw [hz0]; rfl
    have HC0 := Lib.hid hz0
    have c2 := M.c2
    simp only [Nat.reduceAdd] at c2
    have HO := Lib.hid M.own
    rw [hz0]
    clear hm1 M hv
    go_wp2
    go_ret2
    exact ⟨v', by rw [HC0.out]; rfl, by rw [HL.out]; exact HO.out, hb1⟩
  · have HL : Hid (thL X = []) := by unfold Hid thL; rw [beq_eq_false_iff_ne.2 hz0]; rfl
    have hzb : (askC X == 0) = false := beq_eq_false_iff_ne.2 hz0
    obtain ⟨C, hC⟩ : ∃ C, Hid (askC X = C) := ⟨_, Lib.hid rfl⟩
    rw [hC.out] at hzb hz0 ⊢
    clear hm1
    go_wp2
    go_ret2
    exact ⟨.slice none 0 0, by rw [hC.out]; rfl, by rw [HL.out]; exact OwnI.nil _ rfl, hb1⟩
set_option maxHeartbeats 4000000 in
theorem c_spec_ReplayLines (X : List ByteArray) (v : Value) (w : World) (hr : RdTC w v X) (hz : ∀ s ∈ X, s.size ≤ 2000000) (ht : Tab w) :
    Calls Tryz.prog 21 #[v] w fun e w' => e = .returned (.tuple #[.agg #[.int .i64 (rpH X), .int .i64 (rpM X)], .int .i64 (rpN X), .int .i64 (askC X)]) ∧ Below w.heap.size w w' := by
  obtain ⟨W0, hW0, k0, k1, B0⟩ := oneState w 25 0 0
  have f0 : W0.frozen? ⟨w.heap.size, 0, none⟩ = false := by rw [hW0]; go_simp
  have f1 : W0.frozen? ⟨w.heap.size, 1, none⟩ = false := by rw [hW0]; go_simp
  have HR := Lib.hid (hr.below B0)
  have HZ := Lib.hid hz
  have HT := Lib.hid (tab_below ht B0)
  clear hr hz ht
  go_enter Tryz.func21, Tryz.ntmps21
  go_wp2_with fail
  rw [← hW0]
  refine (ask_spec X _ _ HR.out HZ.out HT.out).mono ?_; rintro e w1 ⟨p, rfl, hb1, hm1⟩
  have y0 := keepc hb1 k0
  have y1 := keepc hb1 k1
  have e0 := frozenc hb1 k0 f0
  have e1 := frozenc hb1 k1 f1
  have BR : Below w.heap.size w w1 := B0.trans (hb1.mono B0.size)
  have hs0 : w.heap.size < W0.heap.size := World.block_lt_of_cell? W0 _ k0
  clear hW0 k0 k1 f0 f1
  by_cases hz0 : askC X = 0
  · obtain ⟨g, v', rfl, hv, M⟩ := hm1 hz0
    have HC0 := Lib.hid hz0
    have H1 : Hid (rpH X = (runF X).2.2.h) := by unfold Hid rpH; rw [hz0]; rfl
    have H2 : Hid (rpM X = (runF X).2.2.m) := by unfold Hid rpM; rw [hz0]; rfl
    have H3 : Hid (rpN X = ((runF X).2.2.xs.length : Int)) := by unfold Hid rpN; rw [hz0]; rfl
    have c0 := M.c0
    have c1 := M.c1
    have c2 := M.c2
    obtain ⟨a2, cap2, rfl, hl2, -⟩ := M.own.rd
    simp only [Nat.reduceAdd] at c0 c1 c2
    rw [hz0]
    have hgB := M.hB
    have hgn : g ≠ w.heap.size := by omega
    have hgn2 : w.heap.size ≠ g := by omega
    clear M hm1 hv
    obtain ⟨n, hn⟩ : ∃ n, Hid ((runF X).2.2.xs.length = n) := ⟨_, Lib.hid rfl⟩
    obtain ⟨h, hh⟩ : ∃ h, Hid ((runF X).2.2.h = h) := ⟨_, Lib.hid rfl⟩
    obtain ⟨m, hm⟩ : ∃ m, Hid ((runF X).2.2.m = m) := ⟨_, Lib.hid rfl⟩
    rw [hn.out] at c2 H3 hl2
    rw [hh.out] at c0 H1
    rw [hm.out] at c1 H2
    obtain ⟨X0, X1, -, -⟩ := set2 w1 w.heap.size (.int .i64 h) (.int .i64 m) _ _ y0 y1
    have BZ := (BR.setCell (p := ⟨w.heap.size, 0, none⟩) (Nat.le_refl _) (.int .i64 h)).setCell (p := ⟨w.heap.size, 1, none⟩) (Nat.le_refl _) (.int .i64 m)
    go_wp2_with fail
    go_region_held3 (fun w' => w'.cell? ⟨g, 2 * 0, none⟩ = some (.int .i64 h) ∧ w'.cell? ⟨g, 2 * 0 + 1, none⟩ = some (.int .i64 m) ∧ w'.cell? ⟨g, 2 * 0 + 2, none⟩ = some (.slice a2 n cap2))
      (go_keep)
      (fail)
    go_wp2
    generalize ((w1.setCell ⟨w.heap.size, 0, none⟩ (.int .i64 h)).setCell ⟨w.heap.size, 1, none⟩ (.int .i64 m)) = wz at *
    exact bodyPost_ret (v := .tuple #[.agg #[.int .i64 h, .int .i64 m], .int .i64 (n : Int), .int .i64 0]) (by simp [results, Tryz.results21, go_sem, X0, X1]) rfl ⟨by rw [H1.out, H2.out, H3.out, HC0.out], BZ.dr⟩
  · have hzb : (askC X == 0) = false := beq_eq_false_iff_ne.2 hz0
    have H1 : Hid (rpH X = 0) := by unfold Hid rpH; rw [hzb]; rfl
    have H2 : Hid (rpM X = 0) := by unfold Hid rpM; rw [hzb]; rfl
    have H3 : Hid (rpN X = 0) := by unfold Hid rpN; rw [hzb]; rfl
    obtain ⟨C, hC⟩ : ∃ C, Hid (askC X = C) := ⟨_, Lib.hid rfl⟩
    rw [hC.out] at hzb hz0 ⊢
    clear hm1
    obtain ⟨X0, X1, -, -⟩ := set2 w1 w.heap.size (.int .i64 0) (.int .i64 0) _ _ y0 y1
    have BZ := (BR.setCell (p := ⟨w.heap.size, 0, none⟩) (Nat.le_refl _) (.int .i64 0)).setCell (p := ⟨w.heap.size, 1, none⟩) (Nat.le_refl _) (.int .i64 0)
    go_wp2
    generalize ((w1.setCell ⟨w.heap.size, 0, none⟩ (.int .i64 0)).setCell ⟨w.heap.size, 1, none⟩ (.int .i64 0)) = wz at *
    exact bodyPost_ret (v := .tuple #[.agg #[.int .i64 0, .int .i64 0], .int .i64 0, .int .i64 C]) (by simp [results, Tryz.results21, go_sem, X0, X1]) rfl ⟨by rw [H1.out, H2.out, H3.out, hC.out], BZ⟩
set_option maxHeartbeats 4000000 in
theorem c_impl_CheckLines (X : List ByteArray) (v : Value) (w : World) (hr : RdTC w v X) (hz : ∀ s ∈ X, s.size ≤ 2000000) (ht : Tab w) :
    Calls Tryz.prog 19 #[v] w fun e w' => e = .returned (.tuple #[.int .i64 (ckA X), .int .i64 (ckK X), .int .i64 (ckC X)]) ∧ Below w.heap.size w w' := by
  have HR := Lib.hid hr
  have HZ := Lib.hid hz
  have HT := Lib.hid ht
  obtain ⟨⟨av, cv, rfl, hXl, -⟩, -⟩ := hr
  clear hz ht
  by_cases hl : 60 < X.length
  · have H1 : Hid (ckA X = 0) := by unfold Hid ckA; rw [decide_eq_true hl]; rfl
    have H2 : Hid (ckK X = 0) := by unfold Hid ckK; rw [decide_eq_true hl]; rfl
    have H3 : Hid (ckC X = 5) := by unfold Hid ckC; rw [decide_eq_true hl]; rfl
    have hl2 : (60 : Int) < (X.length : Int) := by omega
    go_enter Tryz.func19, Tryz.ntmps19
    go_wp2
    go_ret3
    exact ⟨by rw [H1.out, H2.out, H3.out]; rfl, Below.refl _ _⟩
  · have H1 : Hid (ckA X = (runF X).1) := by unfold Hid ckA; rw [decide_eq_false hl]; rfl
    have H2 : Hid (ckK X = (runF X).2.1) := by unfold Hid ckK; rw [decide_eq_false hl]; rfl
    have H3 : Hid (ckC X = 0) := by unfold Hid ckC; rw [decide_eq_false hl]; rfl
    have hl2 : ¬ (60 : Int) < (X.length : Int) := by omega
    go_enter Tryz.func19, Tryz.ntmps19
    go_wp2_with fail
    refine (run_impl X _ _ HR.out (by omega) HZ.out HT.out).mono ?_; rintro e w1 ⟨g, rfl, hb1, hm1⟩
    obtain ⟨F, hF⟩ : ∃ F, Hid ((runF X).2.1 = F) := ⟨_, Lib.hid rfl⟩
    obtain ⟨G, hG⟩ : ∃ G, Hid ((runF X).1 = G) := ⟨_, Lib.hid rfl⟩
    rw [hF.out, hG.out]
    clear hm1
    go_wp2
    go_ret3
    exact ⟨by rw [H1.out, H2.out, H3.out, hF.out, hG.out]; rfl, hb1⟩
set_option maxHeartbeats 4000000 in
theorem c_impl_ThrowsOf (X : List ByteArray) (v : Value) (w : World) (hr : RdTC w v X) (hz : ∀ s ∈ X, s.size ≤ 2000000) (ht : Tab w) :
    Calls Tryz.prog 13 #[v] w fun e w' => ∃ u, e = .returned (.tuple #[u, .int .i64 (askC X)]) ∧ OwnI1 w.heap.size w' u (thL X) ∧ Below w.heap.size w w' := by
  have HR := Lib.hid hr
  have HZ := Lib.hid hz
  have HT := Lib.hid ht
  clear hr hz ht
  go_enter Tryz.func13, Tryz.ntmps13
  go_wp2_with fail
  refine (ask_impl X _ _ HR.out HZ.out HT.out).mono ?_; rintro e w1 ⟨p, rfl, hb1, hm1⟩
  by_cases hz0 : askC X = 0
  · obtain ⟨g, v', rfl, hv, M⟩ := hm1 hz0
    have HL : Hid (thL X = (runF X).2.2.xs) := by unfold Hid thL; rw [hz0]; rfl
    have HC0 := Lib.hid hz0
    have c2 := M.c2
    simp only [Nat.reduceAdd] at c2
    have HO := Lib.hid M.own
    rw [hz0]
    clear hm1 M hv
    go_wp2
    go_ret2
    exact ⟨v', by rw [HC0.out]; rfl, by rw [HL.out]; exact HO.out, hb1⟩
  · have HL : Hid (thL X = []) := by unfold Hid thL; rw [beq_eq_false_iff_ne.2 hz0]; rfl
    have hzb : (askC X == 0) = false := beq_eq_false_iff_ne.2 hz0
    obtain ⟨C, hC⟩ : ∃ C, Hid (askC X = C) := ⟨_, Lib.hid rfl⟩
    rw [hC.out] at hzb hz0 ⊢
    clear hm1
    go_wp2
    go_ret2
    exact ⟨.slice none 0 0, by rw [hC.out]; rfl, by rw [HL.out]; exact OwnI.nil _ rfl, hb1⟩
set_option maxHeartbeats 4000000 in
theorem c_impl_ReplayLines (X : List ByteArray) (v : Value) (w : World) (hr : RdTC w v X) (hz : ∀ s ∈ X, s.size ≤ 2000000) (ht : Tab w) :
    Calls Tryz.prog 16 #[v] w fun e w' => e = .returned (.tuple #[.agg #[.int .i64 (rpH X), .int .i64 (rpM X)], .int .i64 (rpN X), .int .i64 (askC X)]) ∧ Below w.heap.size w w' := by
  obtain ⟨W0, hW0, k0, k1, B0⟩ := oneState w 25 0 0
  have f0 : W0.frozen? ⟨w.heap.size, 0, none⟩ = false := by rw [hW0]; go_simp
  have f1 : W0.frozen? ⟨w.heap.size, 1, none⟩ = false := by rw [hW0]; go_simp
  have HR := Lib.hid (hr.below B0)
  have HZ := Lib.hid hz
  have HT := Lib.hid (tab_below ht B0)
  clear hr hz ht
  go_enter Tryz.func16, Tryz.ntmps16
  go_wp2_with fail
  rw [← hW0]
  refine (ask_impl X _ _ HR.out HZ.out HT.out).mono ?_; rintro e w1 ⟨p, rfl, hb1, hm1⟩
  have y0 := keepc hb1 k0
  have y1 := keepc hb1 k1
  have e0 := frozenc hb1 k0 f0
  have e1 := frozenc hb1 k1 f1
  have BR : Below w.heap.size w w1 := B0.trans (hb1.mono B0.size)
  have hs0 : w.heap.size < W0.heap.size := World.block_lt_of_cell? W0 _ k0
  clear hW0 k0 k1 f0 f1
  by_cases hz0 : askC X = 0
  · obtain ⟨g, v', rfl, hv, M⟩ := hm1 hz0
    have HC0 := Lib.hid hz0
    have H1 : Hid (rpH X = (runF X).2.2.h) := by unfold Hid rpH; rw [hz0]; rfl
    have H2 : Hid (rpM X = (runF X).2.2.m) := by unfold Hid rpM; rw [hz0]; rfl
    have H3 : Hid (rpN X = ((runF X).2.2.xs.length : Int)) := by unfold Hid rpN; rw [hz0]; rfl
    have c0 := M.c0
    have c1 := M.c1
    have c2 := M.c2
    obtain ⟨a2, cap2, rfl, hl2, -⟩ := M.own.rd
    simp only [Nat.reduceAdd] at c0 c1 c2
    rw [hz0]
    have hgB := M.hB
    have hgn : g ≠ w.heap.size := by omega
    have hgn2 : w.heap.size ≠ g := by omega
    clear M hm1 hv
    obtain ⟨n, hn⟩ : ∃ n, Hid ((runF X).2.2.xs.length = n) := ⟨_, Lib.hid rfl⟩
    obtain ⟨h, hh⟩ : ∃ h, Hid ((runF X).2.2.h = h) := ⟨_, Lib.hid rfl⟩
    obtain ⟨m, hm⟩ : ∃ m, Hid ((runF X).2.2.m = m) := ⟨_, Lib.hid rfl⟩
    rw [hn.out] at c2 H3 hl2
    rw [hh.out] at c0 H1
    rw [hm.out] at c1 H2
    obtain ⟨X0, X1, -, -⟩ := set2 w1 w.heap.size (.int .i64 h) (.int .i64 m) _ _ y0 y1
    have BZ := (BR.setCell (p := ⟨w.heap.size, 0, none⟩) (Nat.le_refl _) (.int .i64 h)).setCell (p := ⟨w.heap.size, 1, none⟩) (Nat.le_refl _) (.int .i64 m)
    go_wp2_with fail
    go_region_held3 (fun w' => w'.cell? ⟨g, 2 * 1, none⟩ = some (.int .i64 h) ∧ w'.cell? ⟨g, 2 * 1 + 1, none⟩ = some (.int .i64 m) ∧ w'.cell? ⟨g, 2 * 1 + 2, none⟩ = some (.slice a2 n cap2))
      (go_keep)
      (fail)
    go_wp2
    generalize ((w1.setCell ⟨w.heap.size, 0, none⟩ (.int .i64 h)).setCell ⟨w.heap.size, 1, none⟩ (.int .i64 m)) = wz at *
    exact bodyPost_ret (v := .tuple #[.agg #[.int .i64 h, .int .i64 m], .int .i64 (n : Int), .int .i64 0]) (by simp [results, Tryz.results16, go_sem, X0, X1]) rfl ⟨by rw [H1.out, H2.out, H3.out, HC0.out], BZ.dr⟩
  · have hzb : (askC X == 0) = false := beq_eq_false_iff_ne.2 hz0
    have H1 : Hid (rpH X = 0) := by unfold Hid rpH; rw [hzb]; rfl
    have H2 : Hid (rpM X = 0) := by unfold Hid rpM; rw [hzb]; rfl
    have H3 : Hid (rpN X = 0) := by unfold Hid rpN; rw [hzb]; rfl
    obtain ⟨C, hC⟩ : ∃ C, Hid (askC X = C) := ⟨_, Lib.hid rfl⟩
    rw [hC.out] at hzb hz0 ⊢
    clear hm1
    obtain ⟨X0, X1, -, -⟩ := set2 w1 w.heap.size (.int .i64 0) (.int .i64 0) _ _ y0 y1
    have BZ := (BR.setCell (p := ⟨w.heap.size, 0, none⟩) (Nat.le_refl _) (.int .i64 0)).setCell (p := ⟨w.heap.size, 1, none⟩) (Nat.le_refl _) (.int .i64 0)
    go_wp2
    generalize ((w1.setCell ⟨w.heap.size, 0, none⟩ (.int .i64 0)).setCell ⟨w.heap.size, 1, none⟩ (.int .i64 0)) = wz at *
    exact bodyPost_ret (v := .tuple #[.agg #[.int .i64 0, .int .i64 0], .int .i64 0, .int .i64 C]) (by simp [results, Tryz.results16, go_sem, X0, X1]) rfl ⟨by rw [H1.out, H2.out, H3.out, hC.out], BZ⟩
end Go.Proofs.YtioemkdapoombaaGreatDoor
end
