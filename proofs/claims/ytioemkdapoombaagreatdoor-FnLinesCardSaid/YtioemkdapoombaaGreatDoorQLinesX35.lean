/- The law LinesX: what it rests on, part 35 of 46. -/
import Derived.Test.YtioemkdapoombaaGreatDoorQLinesX04
import Derived.Test.YtioemkdapoombaaGreatDoorQLinesX06
import Derived.Laws.StructEq
import Derived.ChangeKeysEq
import Derived.Test.YtioemkdapoombaaGreatDoorQLinesX03
section
namespace Go.Proofs.YtioemkdapoombaaGreatDoor
open Go.ChangeShapes Go.WideShapes Go.ChangeAt Go.RowKit
set_option linter.unusedSimpArgs false
set_option linter.unusedVariables false
def repL (p : List Int) (t : Nat) : List Int := (List.replicate t p).flatten
theorem repL_succ (p : List Int) (t : Nat) : repL p (t + 1) = repL p t ++ p := by
  unfold repL
  rw [List.replicate_succ', List.flatten_append]; simp
theorem repL_len (p : List Int) (t : Nat) : (repL p t).length = t * p.length := by
  induction t with
  | zero => simp [repL]
  | succ t ih => rw [repL_succ, List.length_append, ih, Nat.succ_mul]
theorem some_slice {E : TypeId} {B k : Nat} {w : World} {v : Value} {xs : List Int} (h : OwnI E B w v xs) (hb : v.ownBlock = some k) : ∃ ad n cap, v = .slice (some ad) n cap := by
  rcases h.2 with ⟨rfl, _⟩ | ⟨g, cap, cur, rfl, _⟩
  · cases hb
  · exact ⟨_, _, _, rfl⟩
theorem some_block {v : Value} (h : ∃ ad n cap, v = .slice (some ad) n cap) : ∃ k, v.ownBlock = some k := by
  obtain ⟨ad, n, cap, rfl⟩ := h
  exact ⟨ad.block, rfl⟩
theorem some_next {E : TypeId} {B m : Nat} {w : World} {v v' : Value} {xs : List Int} (hv : ∃ ad n cap, v = .slice (some ad) n cap) (h : OwnI E B w v' xs) (hat : v'.ownBlock = v.ownBlock ∨ v'.ownBlock = some m) : ∃ ad n cap, v' = .slice (some ad) n cap := by
  obtain ⟨k, hk⟩ := some_block hv
  rcases hat with h1 | h1
  · exact some_slice h (h1.trans hk)
  · exact some_slice h h1
set_option maxHeartbeats 2000000 in
set_option maxRecDepth 100000 in
theorem c_impl_repeated (p : List Int) (tm : Nat) (v : Value) (w : World) (hr : RdI w v p) (hp : p.length ≤ 1000) (ht : tm ≤ 1000) :
    Calls Tryz.prog 129 #[v, .int .i64 (tm : Int)] w fun e w' => ∃ u, e = .returned u ∧ OwnI1 w.heap.size w' u (repL p tm) ∧ Below w.heap.size w w' := by
  have HRW := Lib.hid hr
  have ho : OwnI1 w.heap.size (w.alloc (Obj.cells #[] 2)) (.slice (some ⟨w.heap.size, 0, none⟩) 0 0) (repL p 0) := OwnI.made rfl rfl (Nat.le_refl _)
  have hb0 : Below w.heap.size w (w.alloc (Obj.cells #[] 2)) := (Below.refl _ _).al _
  clear hr
  go_enter Tryz.func129, Tryz.ntmps129
  go_wp2_with fail
  go_loopw [5, 8] (fun out i wr => ∃ t : Nat, t ≤ tm ∧ i = .int .i64 t ∧ OwnI1 w.heap.size wr out (repL p t) ∧ (∃ ad n cap, out = .slice (some ad) n cap) ∧ Below w.heap.size w wr) (fun _ i _ => tm - (intOf i).toNat)
  case atStart => exact ⟨0, by omega, rfl, ho, ⟨_, _, _, rfl⟩, hb0⟩
  case round =>
    clear ho hb0
    obtain ⟨t, htt, rfl, hout, hso, hb⟩ := hrel
    obtain ⟨ad2, n2, cap2, hse⟩ := hso
    subst hse
    have hlo := World.ownsRow.lt hout
    have hbs := hb.size
    by_cases hlt : t < tm
    · have HRS := Lib.hid (repL_succ p t)
      have hll : (repL p t).length + p.length < 1000000000 := by
        rw [repL_len]
        have : t * p.length ≤ 1000 * 1000 := Nat.mul_le_mul (by omega) hp
        omega
      have hrr := HRW.out.below hb
      have ht0 : (0 : Int) ≤ (t : Int) := by omega
      go_wp2_with (at_builtin; refine push_ints rfl _ _ _ _ rfl Tryz.underlying26 infoI w.heap.size _ _ (repL p t) p _ rfl rfl (by exact hout) ⟨_, _, _, rfl⟩ (by exact hrr) hll hbs ?_; intro v9 w9 ho9 hg9 hat9 hs9; refine stop_of ?_)
      unfold Stopped
      have hso9 := some_next ⟨_, _, _, rfl⟩ ho9 hat9
      rw [← HRS.out] at ho9
      have HO9 := Lib.hid ho9
      have B9 : Below w.heap.size w w9 := hb.grown hg9 hbs (fun q hq => (hlo q hq).1)
      clear ho9
      go_wp2
      go_roundw
      case rel => exact ⟨t + 1, by omega, by go_num, HO9.out, hso9, B9⟩
      case measure => simp [intOf]; omega
    · obtain rfl : t = tm := by omega
      go_wp2
      go_ret
      exact ⟨_, rfl, hout, hb⟩
end Go.Proofs.YtioemkdapoombaaGreatDoor
end
section
namespace Go.Proofs.YtioemkdapoombaaGreatDoor
open Go.ChangeShapes Go.WideShapes Go.ChangeAt Go.RowKit
set_option linter.unusedVariables false
theorem uState : Tryz.prog.underlying 25 = some (.struct (Tryz.prog.fieldsOf 25)) := by kernel_rfl
theorem sState : Tryz.prog.stoodInHeld 25 = false := by kernel_rfl
theorem gState : Tryz.prog.eqGuardType Tryz.prog.depth 25 = false := by kernel_rfl
theorem fState : (Tryz.prog.fieldsOf 25).toList.map (fun f => (f.name, f.type, f.offset)) = [("Height", 2, 0), ("Mask", 2, 1)] := by kernel_rfl
theorem two_fields {l : List Field} {a b : String × TypeId × Nat} (h : l.map (fun f => (f.name, f.type, f.offset)) = [a, b]) : ∃ f0 f1, l = [f0, f1] ∧ (f0.name, f0.type, f0.offset) = a ∧ (f1.name, f1.type, f1.offset) = b := by
  match l, h with
  | [f0, f1], h => simp at h; exact ⟨f0, f1, rfl, by simp [h], by simp [h]⟩
theorem pkI : Tryz.prog.plainKey 2 = true := by kernel_rfl
theorem run_part1 {w : World} {xs : Array Value} {off : Nat} {n : Int} (hx : xs[off]? = some (.int .i64 n)) : (part 2 xs off).run Tryz.prog w = .ok (.int .i64 n) w := run_part_plain w pkI hx
set_option maxRecDepth 100000 in
theorem eqState (w : World) (h m h' m' : Int) : (Op.equalIn 10000 25 (.agg #[.int .i64 h, .int .i64 m]) (.agg #[.int .i64 h', .int .i64 m'])).run Tryz.prog w = .ok (decide (h = h' ∧ m = m')) w := by
  obtain ⟨f0, f1, hf, h0, h1⟩ := two_fields fState
  simp only [Prod.mk.injEq] at h0 h1
  obtain ⟨n0, t0, o0⟩ := h0
  obtain ⟨n1, t1, o1⟩ := h1
  rw [run_equalIn_agg w 9999 _ _ _ uState sState, hf]
  simp only [Op.eqFields, n0, t0, o0, n1, t1, o1, ne_eq, String.reduceEq, not_false_eq_true, if_true, Sem.run_bind]
  rw [run_part1 (n := h) rfl, Result.andThen_ok, run_part1 (n := h') rfl, Result.andThen_ok, run_equalIn_int w 9998 _ .i64 .i64 _ _ Tryz.underlying2, Result.andThen_ok]
  by_cases hh : h = h'
  · subst hh
    simp only [beq_self_eq_true, Bool.not_true, Bool.false_eq_true, if_false, Sem.run_bind]
    rw [run_part1 (n := m) rfl, Result.andThen_ok, run_part1 (n := m') rfl, Result.andThen_ok, run_equalIn_int w 9998 _ .i64 .i64 _ _ Tryz.underlying2, Result.andThen_ok]
    by_cases hm : m = m'
    · subst hm; simp
    · simp [hm]
  · simp [hh]
theorem neState (w : World) (h m h' m' : Int) : (binOp .neq 25 (.agg #[.int .i64 h, .int .i64 m]) (.agg #[.int .i64 h', .int .i64 m'])).run Tryz.prog w = .ok (.bool (!decide (h = h' ∧ m = m'))) w := by
  rw [run_neq_struct, eqState]; rfl
theorem eqlState (w : World) (h m h' m' : Int) : (binOp .eql 25 (.agg #[.int .i64 h, .int .i64 m]) (.agg #[.int .i64 h', .int .i64 m'])).run Tryz.prog w = .ok (.bool (decide (h = h' ∧ m = m'))) w := by
  rw [run_eql_struct, eqState]; rfl
end Go.Proofs.YtioemkdapoombaaGreatDoor
end
