/- The law LinesX: what it rests on, part 39 of 46. -/
import Derived.Deep.AppendLies
import Derived.Test.YtioemkdapoombaaGreatDoorQLinesX38
namespace Go.Proofs.YtioemkdapoombaaGreatDoor
open Go.ChangeShapes Go.WideShapes Go.ChangeAt Go.RowKit
set_option linter.unusedSimpArgs false
set_option linter.unusedVariables false
set_option maxHeartbeats 4000000 in
theorem c_spec_PlainLines (X : List ByteArray) (v : Value) (w : World) (hr : RdTC w v X) (hz : ∀ s ∈ X, s.size ≤ 2000000) (ht : Tab w) :
    Calls Tryz.prog 26 #[v] w fun e w' => ∃ u, e = .returned (.tuple #[u, .int .i64 (askC X)]) ∧ OwnT w.heap.size w'.heap.size w' u (bif askC X == 0 then plL X else []) ∧ Below w.heap.size w w' := by
  have HR := Lib.hid hr
  have HZ := Lib.hid hz
  have HT := Lib.hid ht
  clear hr hz ht
  go_enter Tryz.func26, Tryz.ntmps26
  go_wp2_with fail
  refine (ask_spec X _ _ HR.out HZ.out HT.out).mono ?_; rintro e w1 ⟨p, rfl, hb1, hm1⟩
  clear hm1
  by_cases hz0 : askC X = 0
  · have HC0 := Lib.hid hz0
    have HPL := Lib.hid (plS_eq hz0)
    have hlen := ask_len hz0
    rw [hz0]
    go_wp2_with fail
    refine (plain_spec X _ _ (HR.out.below hb1) (by omega) HZ.out HC0.out).mono ?_; rintro e w2 ⟨u, rfl, hu, hb2⟩
    go_wp2
    go_ret2
    exact ⟨u, by rw [HC0.out]; rfl, by rw [HC0.out]; exact hu.wide hb1.size (Nat.le_refl _), hb1.tr hb2⟩
  · have hzb : (askC X == 0) = false := beq_eq_false_iff_ne.2 hz0
    obtain ⟨C, hC⟩ : ∃ C, Hid (askC X = C) := ⟨_, Lib.hid rfl⟩
    rw [hC.out] at hzb hz0 ⊢
    go_wp2
    go_ret2
    exact ⟨.slice none 0 0, by rw [hC.out]; rfl, by rw [hC.out, hzb]; exact OwnRow.nil _ rfl, hb1⟩
set_option maxHeartbeats 4000000 in
theorem c_impl_PlainLines (X : List ByteArray) (v : Value) (w : World) (hr : RdTC w v X) (hz : ∀ s ∈ X, s.size ≤ 2000000) (ht : Tab w) :
    Calls Tryz.prog 25 #[v] w fun e w' => ∃ u, e = .returned (.tuple #[u, .int .i64 (askC X)]) ∧ OwnT w.heap.size w'.heap.size w' u (bif askC X == 0 then plL X else []) ∧ Below w.heap.size w w' := by
  have HR := Lib.hid hr
  have HZ := Lib.hid hz
  have HT := Lib.hid ht
  clear hr hz ht
  go_enter Tryz.func25, Tryz.ntmps25
  go_wp2_with fail
  refine (ask_impl X _ _ HR.out HZ.out HT.out).mono ?_; rintro e w1 ⟨p, rfl, hb1, hm1⟩
  clear hm1
  by_cases hz0 : askC X = 0
  · have HC0 := Lib.hid hz0
    have HPL := Lib.hid (plS_eq hz0)
    have hlen := ask_len hz0
    rw [hz0]
    go_wp2_with fail
    refine (plain_impl X _ _ (HR.out.below hb1) (by omega) HZ.out HC0.out).mono ?_; rintro e w2 ⟨u, rfl, hu, hb2⟩
    go_wp2
    go_ret2
    exact ⟨u, by rw [HC0.out]; rfl, by rw [HC0.out]; exact hu.wide hb1.size (Nat.le_refl _), hb1.tr hb2⟩
  · have hzb : (askC X == 0) = false := beq_eq_false_iff_ne.2 hz0
    obtain ⟨C, hC⟩ : ∃ C, Hid (askC X = C) := ⟨_, Lib.hid rfl⟩
    rw [hC.out] at hzb hz0 ⊢
    go_wp2
    go_ret2
    exact ⟨.slice none 0 0, by rw [hC.out]; rfl, by rw [hC.out, hzb]; exact OwnRow.nil _ rfl, hb1⟩
/-- the state behind a line, as the record tells it -/
def chkT (R : Rc) : ByteArray := ⟨#[99, 104, 101, 99, 107, 32]⟩ ++ stT R.h R.m
def endT : ByteArray := ⟨#[101, 110, 100]⟩
def ckO (s0 : ByteArray) (R : Rc) (pl : List ByteArray) : Nat → List ByteArray
  | 0 => [s0]
  | k + 1 => ckO s0 R pl k ++ [pl.getD k ⟨#[]⟩, chkT (folR R pl (k + 1))]
theorem ckO_len (s0 : ByteArray) (R : Rc) (pl : List ByteArray) : ∀ k, (ckO s0 R pl k).length = 2 * k + 1
  | 0 => rfl
  | k + 1 => by unfold ckO; rw [List.length_append, ckO_len s0 R pl k]; simp; omega
def ckP (X : List ByteArray) : List ByteArray := match plL X with
  | [] => []
  | s0 :: pl => match startF s0 with
    | none => []
    | some (h, m) => ckO s0 (startR h m) pl (pl.length - 1) ++ [endT]
def ckL (X : List ByteArray) : List ByteArray := bif askC X == 0 then (bif decide (60 < (ckP X).length) then [] else ckP X) else []
def ckdC (X : List ByteArray) : Int := bif askC X == 0 then (bif decide (60 < (ckP X).length) then 5 else 0) else askC X
theorem ckP_eq {X pl : List ByteArray} {s0 : ByteArray} {h m : Int} (e : plL X = s0 :: pl) (hs : startF s0 = some (h, m)) : ckP X = ckO s0 (startR h m) pl (pl.length - 1) ++ [endT] := by
  unfold ckP; rw [e]; show (match startF s0 with | none => [] | some (h, m) => ckO s0 (startR h m) pl (pl.length - 1) ++ [endT]) = _
  rw [hs]
theorem end_of {R : Rc} {s : ByteArray} (h : (lineF R s).1 = 0) (he : (lineF R s).2.e = true) : s = endT := by
  have h0 := ok_e h
  cases hend : (s.toList == [101, 110, 100])
  · exfalso
    rw [line_w h0 hend] at he h
    have key : ∀ (L : List Int), (makeF R L).2.e = false := fun L => by
      unfold makeF
      cases runOk R.h R.m L
      · exact h0
      · exact h0
    rcases hw : words s with _ | ⟨a, _ | ⟨b, _ | ⟨c, _ | ⟨d, ws⟩⟩⟩⟩
    · exact absurd hw (words_ne s)
    · rw [hw] at he; rw [show (lineW R [a]).2 = R from rfl, h0] at he; cases he
    · rw [hw] at he
      change (bif bl a == thrW then (bif okDig b then makeF R (digsTo b b.size) else (2, R)) else (bif bl a == chkW then checkF R b else (2, R))).2.e = true at he
      cases h1 : (bl a == thrW)
      · rw [h1, cond_false] at he
        cases h2 : (bl a == chkW)
        · rw [h2, cond_false] at he; rw [show ((2, R) : Int × Rc).2 = R from rfl, h0] at he; cases he
        · rw [h2, cond_true, checkF_R, h0] at he; cases he
      · rw [h1, cond_true] at he
        cases h2 : okDig b
        · rw [h2, cond_false] at he; rw [show ((2, R) : Int × Rc).2 = R from rfl, h0] at he; cases he
        · rw [h2, cond_true, key] at he; cases he
    · rw [hw] at he
      change (bif bl a == patT then patF R b c else (2, R)).2.e = true at he
      cases h1 : (bl a == patT)
      · rw [h1, cond_false] at he; rw [show ((2, R) : Int × Rc).2 = R from rfl, h0] at he; cases he
      · rw [h1, cond_true] at he
        unfold patF at he
        cases h2 : (okDig b && (numOk c && inB (numN c) 1 20))
        · rw [h2, cond_false] at he; rw [show ((2, R) : Int × Rc).2 = R from rfl, h0] at he; cases he
        · rw [h2, cond_true] at he
          cases h3 : validP (digsTo b b.size)
          · rw [h3, cond_false] at he; rw [show ((5, R) : Int × Rc).2 = R from rfl, h0] at he; cases he
          · rw [h3, cond_true, key] at he; cases he
    · rw [hw] at he; rw [show (lineW R (a :: b :: c :: d :: ws)).2 = R from rfl, h0] at he; cases he
  · have h1 : s.toList = [101, 110, 100] := eq_of_beq hend
    rw [tl_bl] at h1
    exact bl_inj (by rw [h1]; rfl)
theorem fol_valid {R : Rc} {ls : List ByteArray} (hv : validB R.h R.m = true) (ho : okL R ls) : ∀ k, k ≤ ls.length → validB (folR R ls k).h (folR R ls k).m = true ∧ (folR R ls k).xs.length ≤ R.xs.length + 240 * k
  | 0, _ => ⟨hv, by show R.xs.length ≤ _; omega⟩
  | k + 1, h => by
    obtain ⟨h1, h2⟩ := fol_valid hv ho k (by omega)
    obtain ⟨h3, h4⟩ := lineF_ok (s := ls.getD k ⟨#[]⟩) h1 (ho k (by omega))
    exact ⟨h3, by show (lineF (folR R ls k) (ls.getD k ⟨#[]⟩)).2.xs.length ≤ _; omega⟩
/-- what a record's plain lines are -/
structure PlW (X : List ByteArray) (s0 : ByteArray) (pl : List ByteArray) (h m : Int) : Prop where
  eq : plL X = s0 :: pl
  st : startF s0 = some (h, m)
  ok : okL (startR h m) pl
  e : (folR (startR h m) pl pl.length).e = true
  pos : 0 < pl.length
  len : pl.length < 60
  last : pl.getD (pl.length - 1) ⟨#[]⟩ = endT
  res : (runF X).2.2 = folR (startR h m) pl pl.length
  bd : ∀ s ∈ s0 :: pl, s ∈ X
  stc : startC X = stk [.int .i64 h, .int .i64 m]
theorem plW_of {X : List ByteArray} (h0 : askC X = 0) : ∃ s0 pl h m, PlW X s0 pl h m := by
  obtain ⟨s, ls, a, m, rfl, hs, hr⟩ := runF_zero (ask_run h0).2
  have hlen := (ask_run h0).1
  rw [List.length_cons] at hlen
  have hf := run_filter 1 hr
  have hk : (runL (startR a m) (plL ls) 1).2.1 = 0 := by rw [hf]
  obtain ⟨h1, h2⟩ := runL_okL hk
  have h3 := runL_all 1 h1
  rw [h2, cond_true, hf] at h3
  have hpos : 0 < (plL ls).length := by
    by_cases e : (plL ls).length = 0
    · rw [e] at h2; cases h2
    · omega
  have hll := plL_len ls
  refine ⟨s, plL ls, a, m, plX_cons hs, hs, h1, h2, hpos, by omega, ?_, ?_, fun x hx => ?_, startC_some hs⟩
  · refine end_of (R := folR (startR a m) (plL ls) ((plL ls).length - 1)) (h1 _ (by omega)) ?_
    have e : (plL ls).length = (plL ls).length - 1 + 1 := by omega
    rw [e] at h2; exact h2
  · rw [runF_some hs]
    have := congrArg (fun q => q.2.2) h3
    exact this
  · rcases List.mem_cons.1 hx with rfl | hx
    · exact List.mem_cons_self ..
    · exact List.mem_cons_of_mem _ (List.mem_filter.1 hx).1
theorem PlW.val {X : List ByteArray} {s0 : ByteArray} {pl : List ByteArray} {h m : Int} (p : PlW X s0 pl h m) (k : Nat) (hk : k ≤ pl.length) : validB (folR (startR h m) pl k).h (folR (startR h m) pl k).m = true ∧ (folR (startR h m) pl k).xs.length ≤ 240 * k := by
  have := fol_valid (start_valid p.st : validB (startR h m).h (startR h m).m = true) p.ok k hk
  exact ⟨this.1, by have h2 := this.2; rw [show (startR h m).xs.length = 0 from rfl] at h2; omega⟩
theorem PlW.run {X : List ByteArray} {s0 : ByteArray} {pl : List ByteArray} {h m : Int} (p : PlW X s0 pl h m) (k : Nat) (hk : k < pl.length) : runF ((s0 :: pl).take (k + 1)) = ((k : Int) + 1, 6, folR (startR h m) pl k) := by
  rw [List.take_succ_cons, runF_some p.st, runL_all 1 (okL_take p.ok k)]
  have hl : (pl.take k).length = k := by rw [List.length_take]; omega
  rw [hl, folR_take _ _ _ _ (Nat.le_refl _), ok_e (p.ok k hk)]
  show ((1 : Int) + k, (6 : Int), _) = _
  rw [Int.add_comm]
end Go.Proofs.YtioemkdapoombaaGreatDoor
