/- The law WrittenX: what it rests on, part 18 of 46. -/
import Derived.Test.YtioemkdapoombaaGreatDoorQWrittenX06
import Derived.Test.YtioemkdapoombaaGreatDoorQWrittenX17
section
namespace Go.Proofs.YtioemkdapoombaaGreatDoor
/-- the state behind the first k throws -/
def runM (m : Int) (xs : List Int) (k : Nat) : Int := (xs.take k).foldl nextM m
theorem runM_zero (m : Int) (xs : List Int) : runM m xs 0 = m := rfl
theorem runM_succ (m : Int) (xs : List Int) (k : Nat) (hk : k < xs.length) : runM m xs (k + 1) = nextM (runM m xs k) (xs.getD k 0) := by
  unfold runM
  rw [List.take_succ_eq_append_getElem hk, List.foldl_append]
  simp [List.getD, hk]
def canAt (h m : Int) (xs : List Int) (i : Nat) : Bool := canB h (runM m xs i) (xs.getD i 0)
/-- how many throws are possible one behind the other -/
def runN (h m : Int) (xs : List Int) : Nat := (List.range (xs.length + 1)).findIdx fun i => decide (xs.length ≤ i) || !canAt h m xs i
theorem runN_eq {h m : Int} {xs : List Int} {k : Nat} (hk : k ≤ xs.length) (hall : ∀ i, i < k → canAt h m xs i = true) (hno : k < xs.length → canAt h m xs k = false) : runN h m xs = k := by
  unfold runN
  rw [List.findIdx_eq (by rw [List.length_range]; omega)]
  refine ⟨?_, fun j hj => ?_⟩
  · rw [List.getElem_range]
    by_cases e : k < xs.length
    · simp [hno e]
    · simp; omega
  · rw [List.getElem_range]
    simp [hall j hj]; omega
theorem run_bd {h m : Int} {xs : List Int} (hv : validB h m = true) (k : Nat) (hk : k ≤ xs.length) (hall : ∀ i, i < k → canAt h m xs i = true) : 0 ≤ runM m xs k ∧ runM m xs k < 2 ^ h.toNat := by
  induction k with
  | zero => rw [runM_zero]; have := (validB_iff.1 hv).2; omega
  | succ k ih =>
    have hh := (validB_iff.1 hv).1
    have h1 := ih (by omega) (fun i hi => hall i (by omega))
    rw [runM_succ m xs k (by omega)]
    exact next_bd hh h1 (can_le (by omega) (hall k (by omega))).2
def runOk (h m : Int) (xs : List Int) : Bool := decide (runN h m xs = xs.length)
def runC (h m : Int) (xs : List Int) : Int := bif validB h m then (bif runOk h m xs then 0 else 6) else 1
def runH (h m : Int) : Int := bif validB h m then h else 0
def runS (h m : Int) (xs : List Int) : Int := bif validB h m then runM m xs (runN h m xs) else 0
def runI (h m : Int) (xs : List Int) : Int := bif validB h m then (runN h m xs : Int) else 0
theorem runN_all {h m : Int} {xs : List Int} (hr : runOk h m xs = true) : ∀ i, i < xs.length → canAt h m xs i = true := by
  intro i hi
  unfold runOk runN at hr
  have hr := of_decide_eq_true hr
  rw [List.findIdx_eq (by rw [List.length_range]; omega)] at hr
  have := hr.2 i hi
  rw [List.getElem_range] at this
  simp at this
  exact this.2
theorem run_hex {h m : Int} {xs : List Int} (hv : validB h m = true) (hr : runOk h m xs = true) : ∀ x ∈ xs, 0 ≤ x ∧ x < 16 := by
  intro x hx
  obtain ⟨i, hi, rfl⟩ := List.getElem_of_mem hx
  have hh := (validB_iff.1 hv).1
  have := can_le (by omega) (runN_all hr i hi)
  simp [List.getD, hi] at this
  omega
/-- the text of a state -/
def btxN (m : Int) (t : Nat) : Int := 48 + m / 2 ^ t % 2
def btxTo (m : Int) (k : Nat) : List Int := (List.range k).map (btxN m)
def stT (h m : Int) : ByteArray := strOfNums (btxTo m h.toNat)
theorem btxTo_succ (m : Int) (k : Nat) : btxTo m (k + 1) = btxTo m k ++ [btxN m k] := by simp [btxTo, List.range_succ]
theorem btxTo_len (m : Int) (k : Nat) : (btxTo m k).length = k := by simp [btxTo]
/-- lines with throws, twelve in each -/
def thrS : ByteArray := ⟨#[116, 104, 114, 111, 119, 32]⟩
def lineAt (xs : List Int) (i : Nat) : ByteArray := thrS ++ hexT ((xs.drop (12 * i)).take 12)
def linTo (xs : List Int) (k : Nat) : List ByteArray := (List.range k).map (lineAt xs)
def thrN (n : Nat) : Nat := (n + 11) / 12
def thrL (xs : List Int) : List ByteArray := linTo xs (thrN xs.length)
theorem linTo_succ (xs : List Int) (k : Nat) : linTo xs (k + 1) = linTo xs k ++ [lineAt xs k] := by simp [linTo, List.range_succ]
theorem linTo_len (xs : List Int) (k : Nat) : (linTo xs k).length = k := by simp [linTo]
theorem thrL_len (xs : List Int) : (thrL xs).length = thrN xs.length := linTo_len _ _
theorem part_eq (xs : List Int) (i e : Nat) (hi : i < xs.length) (he : e = if xs.length > i + 12 then i + 12 else xs.length) : (xs.take e).drop i = (xs.drop i).take 12 := by
  rw [List.drop_take]
  subst he
  split
  · congr 1; omega
  · rw [List.take_of_length_le (by rw [List.length_drop]; omega), List.take_of_length_le (by rw [List.length_drop]; omega)]
def staS : ByteArray := ⟨#[115, 116, 97, 114, 116, 32]⟩
def endS : ByteArray := ⟨#[101, 110, 100]⟩
def linC (h m : Int) (xs : List Int) : Int := bif validB h m then (bif runOk h m xs then (bif decide (xs.length ≤ 696) then 0 else 5) else 6) else 1
def linR (h m : Int) (xs : List Int) : List ByteArray := (staS ++ stT h m) :: (thrL xs ++ [endS])
def linL (h m : Int) (xs : List Int) : List ByteArray := bif validB h m && runOk h m xs && decide (xs.length ≤ 696) then linR h m xs else []
end Go.Proofs.YtioemkdapoombaaGreatDoor
end
section
namespace Go.RowKit
variable {α : Type} {row : α → List Value}
theorem push_rows {P : Program} {ops : Array Oper} {rest : List Oper} {o : Oper} {a : Act} {Q : Exit → Act → World → Prop} (hgd : o.guard = none) (s x : Operand) (t e : TypeId)
    (ho : o.op = .call { callee := .builtin .append, args := #[s, x], argTypes := #[t, t] })
    (ht : P.underlying t = some (.slice e)) (z : Value) (bytes : Nat) (hinfo : (P.info? e).map (fun i => (i.zero, i.size, i.bytes)) = some (some z, 1, bytes)) (hzs : z.cells.size = 1) (hby : bytes ≤ 1000)
    (hrow : ∀ x, (row x).length = 1) (hone : ∀ x, ∀ u ∈ row x, u.oneCell' = true) (lo hi : Nat) (v u : Value) (xs ys : List α) (w0 : World) (hs : a.eval s = v) (hx : a.eval x = u)
    (hown : OwnRow e 1 row lo hi w0 v xs) (hv : ∃ ad n cap, v = .slice (some ad) n cap) (hr : RdRow 1 row w0 u ys) (hlen : xs.length + ys.length < 1000000000) (hB : lo ≤ w0.heap.size)
    (h : ∀ v' w', OwnRow e 1 row lo w'.heap.size w' v' (xs ++ ys) → w0.grownBy w' v.ownBlock → (v'.ownBlock = v.ownBlock ∨ v'.ownBlock = some w0.heap.size) → w0.heap.size ≤ w'.heap.size → wpList P ops Q rest (a.put o.dst v') w') :
    wpList P ops Q (o :: rest) a w0 := by
  obtain ⟨i0, hi0, hz0, hz1, hz2⟩ := info_parts hinfo
  have e1 : (xs ++ ys).length = xs.length + ys.length := by simp
  have e2 : (xs ++ ys).flatMap row = xs.flatMap row ++ ys.flatMap row := by simp
  have hyl : (ys.flatMap row).length = ys.length * 1 := flat_len hrow ys
  obtain ⟨au, cu, rfl, hul, huc⟩ := hr
  cases au with
  | none =>
    have hys : ys = [] := by
      cases ys with
      | nil => rfl
      | cons y ys => obtain ⟨b, off, hb, _⟩ := huc 0 (by simp); cases hb
    subst hys
    obtain ⟨ad, n0, cap0, hvv⟩ := hv
    rcases hown.1.2 with ⟨hnil, _⟩ | ⟨g, cap, cur, hve, hg, hh, hn, hm, hcs, hcells⟩
    · rw [hvv] at hnil; cases hnil
    · subst hve
      refine wpList_plain hgd fun K hK => ?_
      have hrun := run_append_room_src (P := P) w0 t t o.type e i0 ht hi0 g 0 xs.length cap (.slice none ([] : List α).length cu) 0 [] (Src.ofNil w0 ht cu) (by omega) (fun j hj => by simp at hj) (fun j hj => by simp at hj)
      unfold Oper.wp execOp
      simp only [ho, resolve, invoke, builtin, Sem.run_bind, Sem.run_pure, Result.andThen_ok, List.map_toArray, List.map_cons, List.map_nil, hs, hx, hrun]
      exact hK _ _ (h _ _ (by rw [List.append_nil]; exact hown.tight) (grownBy_refl _ _) (Or.inl rfl) (Nat.le_refl _))
  | some ad =>
    refine wpList_append_own_at _ hgd s x t ho lo e i0 z 1 bytes ht hi0 hz0 hz1 hz2 hzs (by decide) v xs.length (xs.flatMap row) hs hown.1 ad ys.length cu (ys.flatMap row) hx hyl ?_ ?_ ?_ ?_ hB ?_
    · intro j u hu
      have hj : j < ys.length := by have := (List.getElem?_eq_some_iff.1 hu).1; omega
      obtain ⟨b, off, hb, hc⟩ := huc j hj
      cases hb
      have hadd : (⟨b, off, none⟩ : Addr).add j = ⟨b, off + j, none⟩ := by unfold Addr.add; split <;> simp_all
      have hg := flat_get hrow ys j 0 hj (by decide)
      rw [Nat.mul_one, Nat.add_zero, hu] at hg
      have := hc 0 u hg.symm
      rw [hadd]
      simpa using this
    · intro u hu
      obtain ⟨y, _, hy⟩ := List.mem_flatMap.1 hu
      exact hone y u hy
    · unfold maxLen; omega
    · have h1 : (xs.length + ys.length) * bytes ≤ 1000000000 * 1000 := Nat.mul_le_mul (by omega) hby
      omega
    · intro v' w' ho' hg _ hat
      refine h v' w' ⟨?_, fun k hk => (World.ownsRow.lt ho' k hk).2⟩ hg hat hg.size
      rw [e1, e2]
      exact ho'
/-- a slice of int64 that is read, whose room is known -/
def RdC (w : World) (v : Value) (xs : List Int) : Prop := RdI w v xs ∧ ∃ a cap, v = .slice a xs.length cap ∧ xs.length ≤ cap
theorem RdC.below {a b : World} {v : Value} {xs : List Int} (h : RdC a v xs) (hb : Below a.heap.size a b) : RdC b v xs := ⟨h.1.below hb, h.2⟩
theorem OwnI.rdc {B : Nat} {E : TypeId} {a : World} {v : Value} {xs : List Int} (h : OwnI E B a v xs) : RdC a v xs := by
  refine ⟨h.rd, ?_⟩
  rcases h.shape with ⟨rfl, rfl⟩ | ⟨g, cap, rfl, _, _, hl, _⟩
  · exact ⟨none, 0, rfl, Nat.le_refl _⟩
  · exact ⟨_, cap, rfl, hl⟩
theorem RdC.cut {w : World} {a : Option Addr} {n cap : Nat} {xs : List Int} (h : RdC w (.slice a n cap) xs) (l r : Nat) (hl : l ≤ r) (hr : r ≤ xs.length) :
    n = xs.length ∧ n ≤ cap ∧ RdC w (sliced a l r cap 1) ((xs.take r).drop l) := by
  obtain ⟨⟨a1, c1, e1, hlen, hc⟩, a2, c2, e2, hcap⟩ := h
  cases e1; cases e2
  refine ⟨rfl, hcap, ⟨?_, ?_⟩⟩
  · refine ⟨_, _, by unfold sliced; rw [List.length_drop, List.length_take, Nat.min_eq_left hr], by rw [List.length_drop, List.length_take]; omega, fun k hk => ?_⟩
    rw [List.length_drop, List.length_take, Nat.min_eq_left hr] at hk
    obtain ⟨b, off, ha, hx⟩ := hc (l + k) (by omega)
    subst ha
    have hne : ¬ cap = l := by omega
    refine ⟨b, off + l, ?_, ?_⟩
    · rw [if_neg hne, Option.map_some, Nat.mul_one]
      have hadd : (⟨b, off, none⟩ : Addr).add l = ⟨b, off + l, none⟩ := by unfold Addr.add; split <;> simp_all
      rw [hadd]
    · rw [Nat.add_assoc, hx]
      simp only [List.getD_eq_getElem?_getD, List.getElem?_drop, List.getElem?_take]
      rw [if_pos (by omega)]
  · exact ⟨_, _, by unfold sliced; rw [List.length_drop, List.length_take, Nat.min_eq_left hr], by rw [List.length_drop, List.length_take]; omega⟩
end Go.RowKit
namespace Go.Proofs.YtioemkdapoombaaGreatDoor
open Go.ChangeShapes Go.WideShapes Go.ChangeAt Go.RowKit
set_option linter.unusedVariables false
theorem elemI : Tryz.prog.underlying 26 = some (.slice (Tryz.prog.elem 26)) := by kernel_rfl
theorem sizeI (w : World) : (sizeOf (Tryz.prog.elem 26)).run Tryz.prog w = .ok 1 w := by kernel_rfl
/-- a part of a slice: both bounds, the upper one alone, the lower one alone -/
theorem cut_lr {w : World} {v : Value} {xs : List Int} (h : RdC w v xs) (l r : Nat) (hl : l ≤ r) (hr : r ≤ xs.length) :
    ∃ u, (∀ w', (Instr.slice 26 v (some (.int .i64 l)) (some (.int .i64 r)) none).run Tryz.prog w' = .ok u w') ∧ RdC w u ((xs.take r).drop l) := by
  obtain ⟨a, cap, rfl, hc⟩ := h.2
  have hk := h.cut l r hl hr
  refine ⟨_, fun w' => ?_, hk.2.2⟩
  rw [run_slice_lh w' _ _ _ _ elemI _ _ _ _ (by omega) (by omega) (by omega), sizeI, Result.andThen_ok]
  rfl
theorem cut_r {w : World} {v : Value} {xs : List Int} (h : RdC w v xs) (r : Nat) (hr : r ≤ xs.length) :
    ∃ u, (∀ w', (Instr.slice 26 v none (some (.int .i64 r)) none).run Tryz.prog w' = .ok u w') ∧ RdC w u (xs.take r) := by
  obtain ⟨a, cap, rfl, hc⟩ := h.2
  have hk := h.cut 0 r (Nat.zero_le _) hr
  refine ⟨_, fun w' => ?_, hk.2.2⟩
  rw [run_slice_h w' _ _ _ _ elemI _ _ (by omega) (by omega), sizeI, Result.andThen_ok]
  rfl
theorem cut_l {w : World} {v : Value} {xs : List Int} (h : RdC w v xs) (l : Nat) (hl : l ≤ xs.length) :
    ∃ u, (∀ w', (Instr.slice 26 v (some (.int .i64 l)) none none).run Tryz.prog w' = .ok u w') ∧ RdC w u (xs.drop l) := by
  obtain ⟨a, cap, rfl, hc⟩ := h.2
  have hk := (h.cut l xs.length hl (Nat.le_refl _)).2.2
  rw [List.take_length] at hk
  refine ⟨_, fun w' => ?_, hk⟩
  rw [run_slice_l w' _ _ _ _ elemI _ _ (by omega) (by omega), sizeI, Result.andThen_ok]
  rfl
theorem cut_lrI {w : World} {v : Value} {xs : List Int} (h : RdC w v xs) (l r : Int) (h0 : 0 ≤ l) (hl : l ≤ r) (hr : r ≤ xs.length) :
    ∃ u, (∀ w', (Instr.slice 26 v (some (.int .i64 l)) (some (.int .i64 r)) none).run Tryz.prog w' = .ok u w') ∧ RdC w u ((xs.take r.toNat).drop l.toNat) := by
  have := cut_lr h l.toNat r.toNat (by omega) (by omega)
  rw [Int.toNat_of_nonneg h0, Int.toNat_of_nonneg (show 0 ≤ r by omega)] at this
  exact this
theorem cut_rI {w : World} {v : Value} {xs : List Int} (h : RdC w v xs) (r : Int) (h0 : 0 ≤ r) (hr : r ≤ xs.length) :
    ∃ u, (∀ w', (Instr.slice 26 v none (some (.int .i64 r)) none).run Tryz.prog w' = .ok u w') ∧ RdC w u (xs.take r.toNat) := by
  have := cut_r h r.toNat (by omega)
  rw [Int.toNat_of_nonneg h0] at this
  exact this
theorem cut_lI {w : World} {v : Value} {xs : List Int} (h : RdC w v xs) (l : Int) (h0 : 0 ≤ l) (hl : l ≤ xs.length) :
    ∃ u, (∀ w', (Instr.slice 26 v (some (.int .i64 l)) none none).run Tryz.prog w' = .ok u w') ∧ RdC w u (xs.drop l.toNat) := by
  have := cut_l h l.toNat (by omega)
  rw [Int.toNat_of_nonneg h0] at this
  exact this
/-- one text in a block of its own -/
theorem oneText (w : World) (s : ByteArray) : OwnT w.heap.size (w.heap.size + 1) (w.alloc (.cells #[.string s] 9)) (.slice (some ⟨w.heap.size, 0, none⟩) 1 1) [s] := by
  refine ⟨?_, fun k hk => ?_⟩
  · exact World.ownsRow_lit w #[.string s] 1 (Nat.le_refl _) (by decide) rfl
  · simp only [Value.ownBlock, Option.some.injEq] at hk
    omega
end Go.Proofs.YtioemkdapoombaaGreatDoor
end
