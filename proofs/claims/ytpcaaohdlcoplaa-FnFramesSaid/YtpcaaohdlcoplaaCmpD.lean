/- How two dots are compared. -/
import Derived.Test.YtpcaaohdlcoplaaCmpS
import Derived.Test.YtpcaaohdlcoplaaFrames
namespace Go.Proofs.Ytpcaaohdlcoplaa
open Go.ChangeShapes Go.WideShapes Go.ChangeAt Go.RowKit
set_option linter.unusedVariables false
theorem uFrac : Try.prog.underlying 69 = some (.struct (Try.prog.fieldsOf 69)) := by kernel_rfl
theorem sFrac : Try.prog.stoodInHeld 69 = false := by kernel_rfl
theorem fFrac : (Try.prog.fieldsOf 69).toList.map (fun f => (f.name, f.type, f.offset)) = [("Num", 2, 0), ("Den", 2, 1)] := by kernel_rfl
theorem uDot : Try.prog.underlying 71 = some (.struct (Try.prog.fieldsOf 71)) := by kernel_rfl
theorem sDot : Try.prog.stoodInHeld 71 = false := by kernel_rfl
theorem gDot : Try.prog.eqGuardType Try.prog.depth 71 = false := by kernel_rfl
theorem fDot : (Try.prog.fieldsOf 71).toList.map (fun f => (f.name, f.type, f.offset)) = [("Prop", 2, 0), ("Hand", 2, 1), ("X", 69, 2), ("Y", 2, 4)] := by kernel_rfl
theorem four_fields {l : List Field} {a b c d : String × TypeId × Nat} (h : l.map (fun f => (f.name, f.type, f.offset)) = [a, b, c, d]) : ∃ f0 f1 f2 f3, l = [f0, f1, f2, f3] ∧ (f0.name, f0.type, f0.offset) = a ∧ (f1.name, f1.type, f1.offset) = b ∧ (f2.name, f2.type, f2.offset) = c ∧ (f3.name, f3.type, f3.offset) = d := by
  match l, h with
  | [f0, f1, f2, f3], h => simp at h; exact ⟨f0, f1, f2, f3, rfl, by simp [h], by simp [h], by simp [h], by simp [h]⟩
theorem partF (w : World) (p h n d y : Int) : (part 69 #[.int .i64 p, .int .i64 h, .int .i64 n, .int .i64 d, .int .i64 y] 2).run Try.prog w = .ok (.agg #[.int .i64 n, .int .i64 d]) w := by kernel_rfl
set_option maxRecDepth 100000 in
theorem eqFrac (w : World) (h m h' m' : Int) : (Op.equalIn 9999 69 (.agg #[.int .i64 h, .int .i64 m]) (.agg #[.int .i64 h', .int .i64 m'])).run Try.prog w = .ok (decide (h = h' ∧ m = m')) w := by
  obtain ⟨f0, f1, hf, h0, h1⟩ := two_fields fFrac
  simp only [Prod.mk.injEq] at h0 h1
  obtain ⟨n0, t0, o0⟩ := h0
  obtain ⟨n1, t1, o1⟩ := h1
  rw [run_equalIn_agg w 9998 _ _ _ uFrac sFrac, hf]
  simp only [Op.eqFields, n0, t0, o0, n1, t1, o1, ne_eq, String.reduceEq, not_false_eq_true, if_true, Sem.run_bind]
  rw [run_part1 (n := h) rfl, Result.andThen_ok, run_part1 (n := h') rfl, Result.andThen_ok, run_equalIn_int w 9997 _ .i64 .i64 _ _ Try.underlying2, Result.andThen_ok]
  by_cases hh : h = h'
  · subst hh
    simp only [beq_self_eq_true, Bool.not_true, Bool.false_eq_true, if_false, Sem.run_bind]
    rw [run_part1 (n := m) rfl, Result.andThen_ok, run_part1 (n := m') rfl, Result.andThen_ok, run_equalIn_int w 9997 _ .i64 .i64 _ _ Try.underlying2, Result.andThen_ok]
    by_cases hm : m = m'
    · subst hm; simp
    · simp [hm]
  · simp [hh]
set_option maxRecDepth 100000 in
theorem eqDot (w : World) (p h n d y p' h' n' d' y' : Int) : (Op.equalIn 10000 71 (.agg #[.int .i64 p, .int .i64 h, .int .i64 n, .int .i64 d, .int .i64 y]) (.agg #[.int .i64 p', .int .i64 h', .int .i64 n', .int .i64 d', .int .i64 y'])).run Try.prog w = .ok (decide (p = p' ∧ h = h' ∧ n = n' ∧ d = d' ∧ y = y')) w := by
  obtain ⟨f0, f1, f2, f3, hf, h0, h1, h2, h3⟩ := four_fields fDot
  simp only [Prod.mk.injEq] at h0 h1 h2 h3
  obtain ⟨n0, t0, o0⟩ := h0
  obtain ⟨n1, t1, o1⟩ := h1
  obtain ⟨n2, t2, o2⟩ := h2
  obtain ⟨n3, t3, o3⟩ := h3
  rw [run_equalIn_agg w 9999 _ _ _ uDot sDot, hf]
  simp only [Op.eqFields, n0, t0, o0, n1, t1, o1, n2, t2, o2, n3, t3, o3, ne_eq, String.reduceEq, not_false_eq_true, if_true, Sem.run_bind]
  rw [run_part1 (n := p) rfl, Result.andThen_ok, run_part1 (n := p') rfl, Result.andThen_ok, run_equalIn_int w 9998 _ .i64 .i64 _ _ Try.underlying2, Result.andThen_ok]
  by_cases hp : p = p'
  · subst hp
    simp only [beq_self_eq_true, Bool.not_true, Bool.false_eq_true, if_false, Sem.run_bind]
    rw [run_part1 (n := h) rfl, Result.andThen_ok, run_part1 (n := h') rfl, Result.andThen_ok, run_equalIn_int w 9998 _ .i64 .i64 _ _ Try.underlying2, Result.andThen_ok]
    by_cases hh : h = h'
    · subst hh
      simp only [beq_self_eq_true, Bool.not_true, Bool.false_eq_true, if_false, Sem.run_bind]
      rw [partF, Result.andThen_ok, partF, Result.andThen_ok, eqFrac, Result.andThen_ok]
      by_cases hx : n = n' ∧ d = d'
      · obtain ⟨rfl, rfl⟩ := hx
        simp only [and_self, decide_true, Bool.not_true, Bool.false_eq_true, if_false, Sem.run_bind]
        rw [run_part1 (n := y) rfl, Result.andThen_ok, run_part1 (n := y') rfl, Result.andThen_ok, run_equalIn_int w 9998 _ .i64 .i64 _ _ Try.underlying2, Result.andThen_ok]
        by_cases hy : y = y'
        · subst hy; simp
        · simp [hy]
      · have hx' : ¬ (n = n' ∧ d = d' ∧ y = y') := fun e => hx ⟨e.1, e.2.1⟩
        simp [hx, hx']
    · simp [hh]
  · simp [hp]
theorem neDot (w : World) (p h n d y p' h' n' d' y' : Int) : (binOp .neq 71 (.agg #[.int .i64 p, .int .i64 h, .int .i64 n, .int .i64 d, .int .i64 y]) (.agg #[.int .i64 p', .int .i64 h', .int .i64 n', .int .i64 d', .int .i64 y'])).run Try.prog w = .ok (.bool (!decide (p = p' ∧ h = h' ∧ n = n' ∧ d = d' ∧ y = y'))) w := by
  rw [run_neq_struct, eqDot]; rfl
end Go.Proofs.Ytpcaaohdlcoplaa
