/- How two states, and two arcs, are compared. -/
import Derived.Test.YtjokodlappeapaaDoorBase
import Derived.Laws.StructEq
import Derived.ChangeKeysEq
namespace Go.Proofs.YtjokodlappeapaaDoor
open Go.ChangeShapes Go.WideShapes Go.ChangeAt Go.RowKit
set_option linter.unusedVariables false
theorem uState : Tryd.prog.underlying 30 = some (.struct (Tryd.prog.fieldsOf 30)) := by kernel_rfl
theorem sState : Tryd.prog.stoodInHeld 30 = false := by kernel_rfl
theorem gState : Tryd.prog.eqGuardType Tryd.prog.depth 30 = false := by kernel_rfl
theorem fState : (Tryd.prog.fieldsOf 30).toList.map (fun f => (f.name, f.type, f.offset)) = [("Height", 2, 0), ("Mask", 2, 1)] := by kernel_rfl
theorem two_fields {l : List Field} {a b : String × TypeId × Nat} (h : l.map (fun f => (f.name, f.type, f.offset)) = [a, b]) : ∃ f0 f1, l = [f0, f1] ∧ (f0.name, f0.type, f0.offset) = a ∧ (f1.name, f1.type, f1.offset) = b := by
  match l, h with
  | [f0, f1], h => simp at h; exact ⟨f0, f1, rfl, by simp [h], by simp [h]⟩
theorem three_fields {l : List Field} {a b c : String × TypeId × Nat} (h : l.map (fun f => (f.name, f.type, f.offset)) = [a, b, c]) : ∃ f0 f1 f2, l = [f0, f1, f2] ∧ (f0.name, f0.type, f0.offset) = a ∧ (f1.name, f1.type, f1.offset) = b ∧ (f2.name, f2.type, f2.offset) = c := by
  match l, h with
  | [f0, f1, f2], h => simp at h; exact ⟨f0, f1, f2, rfl, by simp [h], by simp [h], by simp [h]⟩
theorem pkI : Tryd.prog.plainKey 2 = true := by kernel_rfl
theorem run_part1 {w : World} {xs : Array Value} {off : Nat} {n : Int} (hx : xs[off]? = some (.int .i64 n)) : (part 2 xs off).run Tryd.prog w = .ok (.int .i64 n) w := run_part_plain w pkI hx
set_option maxRecDepth 100000 in
theorem eqState (w : World) (h m h' m' : Int) : (Op.equalIn 10000 30 (.agg #[.int .i64 h, .int .i64 m]) (.agg #[.int .i64 h', .int .i64 m'])).run Tryd.prog w = .ok (decide (h = h' ∧ m = m')) w := by
  obtain ⟨f0, f1, hf, h0, h1⟩ := two_fields fState
  simp only [Prod.mk.injEq] at h0 h1
  obtain ⟨n0, t0, o0⟩ := h0
  obtain ⟨n1, t1, o1⟩ := h1
  rw [run_equalIn_agg w 9999 _ _ _ uState sState, hf]
  simp only [Op.eqFields, n0, t0, o0, n1, t1, o1, ne_eq, String.reduceEq, not_false_eq_true, if_true, Sem.run_bind]
  rw [run_part1 (n := h) rfl, Result.andThen_ok, run_part1 (n := h') rfl, Result.andThen_ok, run_equalIn_int w 9998 _ .i64 .i64 _ _ Tryd.underlying2, Result.andThen_ok]
  by_cases hh : h = h'
  · subst hh
    simp only [beq_self_eq_true, Bool.not_true, Bool.false_eq_true, if_false, Sem.run_bind]
    rw [run_part1 (n := m) rfl, Result.andThen_ok, run_part1 (n := m') rfl, Result.andThen_ok, run_equalIn_int w 9998 _ .i64 .i64 _ _ Tryd.underlying2, Result.andThen_ok]
    by_cases hm : m = m'
    · subst hm; simp
    · simp [hm]
  · simp [hh]
theorem neState (w : World) (h m h' m' : Int) : (binOp .neq 30 (.agg #[.int .i64 h, .int .i64 m]) (.agg #[.int .i64 h', .int .i64 m'])).run Tryd.prog w = .ok (.bool (!decide (h = h' ∧ m = m'))) w := by
  rw [run_neq_struct, eqState]; rfl
theorem eqlState (w : World) (h m h' m' : Int) : (binOp .eql 30 (.agg #[.int .i64 h, .int .i64 m]) (.agg #[.int .i64 h', .int .i64 m'])).run Tryd.prog w = .ok (.bool (decide (h = h' ∧ m = m'))) w := by
  rw [run_eql_struct, eqState]; rfl
theorem uArc : Tryd.prog.underlying 129 = some (.struct (Tryd.prog.fieldsOf 129)) := by kernel_rfl
theorem sArc : Tryd.prog.stoodInHeld 129 = false := by kernel_rfl
theorem gArc : Tryd.prog.eqGuardType Tryd.prog.depth 129 = false := by kernel_rfl
theorem fArc : (Tryd.prog.fieldsOf 129).toList.map (fun f => (f.name, f.type, f.offset)) = [("From", 2, 0), ("Throw", 2, 1), ("To", 2, 2)] := by kernel_rfl
set_option maxRecDepth 100000 in
theorem eqArc (w : World) (h m k h' m' k' : Int) : (Op.equalIn 10000 129 (.agg #[.int .i64 h, .int .i64 m, .int .i64 k]) (.agg #[.int .i64 h', .int .i64 m', .int .i64 k'])).run Tryd.prog w = .ok (decide (h = h' ∧ m = m' ∧ k = k')) w := by
  obtain ⟨f0, f1, f2, hf, h0, h1, h2⟩ := three_fields fArc
  simp only [Prod.mk.injEq] at h0 h1 h2
  obtain ⟨n0, t0, o0⟩ := h0
  obtain ⟨n1, t1, o1⟩ := h1
  obtain ⟨n2, t2, o2⟩ := h2
  rw [run_equalIn_agg w 9999 _ _ _ uArc sArc, hf]
  simp only [Op.eqFields, n0, t0, o0, n1, t1, o1, n2, t2, o2, ne_eq, String.reduceEq, not_false_eq_true, if_true, Sem.run_bind]
  rw [run_part1 (n := h) rfl, Result.andThen_ok, run_part1 (n := h') rfl, Result.andThen_ok, run_equalIn_int w 9998 _ .i64 .i64 _ _ Tryd.underlying2, Result.andThen_ok]
  by_cases hh : h = h'
  · subst hh
    simp only [beq_self_eq_true, Bool.not_true, Bool.false_eq_true, if_false, Sem.run_bind]
    rw [run_part1 (n := m) rfl, Result.andThen_ok, run_part1 (n := m') rfl, Result.andThen_ok, run_equalIn_int w 9998 _ .i64 .i64 _ _ Tryd.underlying2, Result.andThen_ok]
    by_cases hm : m = m'
    · subst hm
      simp only [beq_self_eq_true, Bool.not_true, Bool.false_eq_true, if_false, Sem.run_bind]
      rw [run_part1 (n := k) rfl, Result.andThen_ok, run_part1 (n := k') rfl, Result.andThen_ok, run_equalIn_int w 9998 _ .i64 .i64 _ _ Tryd.underlying2, Result.andThen_ok]
      by_cases hk : k = k'
      · subst hk; simp
      · simp [hk]
    · simp [hm]
  · simp [hh]
theorem neArc (w : World) (h m k h' m' k' : Int) : (binOp .neq 129 (.agg #[.int .i64 h, .int .i64 m, .int .i64 k]) (.agg #[.int .i64 h', .int .i64 m', .int .i64 k'])).run Tryd.prog w = .ok (.bool (!decide (h = h' ∧ m = m' ∧ k = k'))) w := by
  rw [run_neq_struct, eqArc]; rfl
end Go.Proofs.YtjokodlappeapaaDoor
