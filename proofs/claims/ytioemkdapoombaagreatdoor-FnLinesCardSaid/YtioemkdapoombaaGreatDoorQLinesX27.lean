/- The law LinesX: what it rests on, part 27 of 46. -/
import Derived.Test.YtioemkdapoombaaGreatDoorQLinesX14
import Derived.Test.YtioemkdapoombaaGreatDoorQLinesX15
import Derived.Test.YtioemkdapoombaaGreatDoorQLinesX26
namespace Go.Proofs.YtioemkdapoombaaGreatDoor
open Go.RowKit
def patR (X : List Part2) (k : Nat) : List Int := (X.getD k ([], 0)).1
def timR (X : List Part2) (k : Nat) : Int := (X.getD k ([], 0)).2
def stR (h : Int) (X : List Part2) (k : Nat) : Int := stM (patR X k) 0 h
def grR (X : List Part2) : Int := groundI (headN X)
def seqS (h : Int) (X : List Part2) (k : Nat) : Int := if k = 0 then grR X else if k ≤ X.length then stR h X (k - 1) else grR X
noncomputable def brAt (h : Int) (X : List Part2) (k : Nat) : List Int := shortL h (seqS h X k) (seqS h X (k + 1))
noncomputable def brTo (h : Int) (X : List Part2) (k : Nat) : List (List Int) := (List.range k).map (brAt h X)
noncomputable def brR (h : Int) (X : List Part2) : List (List Int) := brTo h X (X.length + 1)
theorem brTo_succ (h : Int) (X : List Part2) (k : Nat) : brTo h X (k + 1) = brTo h X k ++ [brAt h X k] := by simp [brTo, List.range_succ]
theorem brTo_len (h : Int) (X : List Part2) (k : Nat) : (brTo h X k).length = k := by simp [brTo]
theorem patR_at {X : List Part2} {k : Nat} (hk : k < X.length) : patR X k = X[k].1 := by simp [patR, List.getD, hk]
theorem timR_at {X : List Part2} {k : Nat} (hk : k < X.length) : timR X k = X[k].2 := by simp [timR, List.getD, hk]
structure RoutOk (h : Int) (X : List Part2) : Prop where
  hh : 1 ≤ h ∧ h ≤ 10
  hl : 1 ≤ X.length ∧ X.length ≤ 8
  hv : ∀ k, k < X.length → validP (patR X k) = true
  hp : ∀ k, k < X.length → ∀ x ∈ patR X k, x ≤ h
  hn : ∀ k, k < X.length → propsP (patR X k) = headN X
  ht : ∀ k, k < X.length → 1 ≤ timR X k ∧ timR X k ≤ 20
theorem rout_ok {h : Int} {X : List Part2} (hv : validR h X = true) : RoutOk h X := by
  unfold validR at hv
  rw [Bool.and_eq_true, Bool.and_eq_true] at hv
  obtain ⟨h1, h2, h3⟩ := hv
  have hh := inB_iff.1 h1
  have hl := inB_iff.1 h2
  have hall : ∀ k (hk : k < X.length), okPt h (headN X) X[k] = true := fun k hk => List.all_eq_true.1 h3 _ (List.getElem_mem hk)
  have hparts : ∀ k (hk : k < X.length), validP X[k].1 = true ∧ mxF 0 X[k].1 ≤ h ∧ (1 ≤ X[k].2 ∧ X[k].2 ≤ 20) ∧ propsP X[k].1 = headN X := fun k hk => by
    have h4 := hall k hk
    unfold okPt validPt at h4
    simp only [Bool.and_eq_true, decide_eq_true_eq, beq_iff_eq] at h4
    exact ⟨h4.1.1, h4.1.2.1, inB_iff.1 h4.1.2.2, h4.2⟩
  refine ⟨hh, by omega, fun k hk => ?_, fun k hk x hx => ?_, fun k hk => ?_, fun k hk => ?_⟩
  · rw [patR_at hk]; exact (hparts k hk).1
  · rw [patR_at hk] at hx
    have h5 := (mxF_ge 0 X[k].1).2.1 x hx
    have := (hparts k hk).2.1
    omega
  · rw [patR_at hk]; exact (hparts k hk).2.2.2
  · rw [timR_at hk]; exact (hparts k hk).2.2.1
theorem RoutOk.n {h : Int} {X : List Part2} (R : RoutOk h X) : 0 ≤ headN X ∧ headN X ≤ h := by
  have := props_bd (R.hv 0 (by have := R.hl; omega)) R.hh (R.hp 0 (by have := R.hl; omega))
  rw [R.hn 0 (by have := R.hl; omega)] at this
  exact this
theorem RoutOk.st {h : Int} {X : List Part2} (R : RoutOk h X) {k : Nat} (hk : k < X.length) : stR h X k ∈ maskL (headN X) h := by
  have := stM_mem (R.hv k hk) 0 R.hh (R.hp k hk)
  rw [R.hn k hk] at this
  exact this
theorem RoutOk.gr {h : Int} {X : List Part2} (R : RoutOk h X) : grR X ∈ maskL (headN X) h := ground_mem R.hh R.n
theorem RoutOk.sq {h : Int} {X : List Part2} (R : RoutOk h X) (k : Nat) : seqS h X k ∈ maskL (headN X) h := by
  unfold seqS
  split
  · exact R.gr
  · split
    · exact R.st (by have := R.hl; omega)
    · exact R.gr
theorem seq_zero (h : Int) (X : List Part2) : seqS h X 0 = grR X := rfl
theorem seq_succ {h : Int} {X : List Part2} {k : Nat} (hk : k < X.length) : seqS h X (k + 1) = stR h X k := by
  unfold seqS
  rw [if_neg (by omega), if_pos (by omega), Nat.add_sub_cancel]
theorem seq_last (h : Int) (X : List Part2) : seqS h X (X.length + 1) = grR X := by
  unfold seqS
  rw [if_neg (by omega), if_neg (by omega)]
theorem RoutOk.br {h : Int} {X : List Part2} (R : RoutOk h X) {i j : Nat} (hi : i < X.length) (hj : j < X.length) : brC (patR X i) (patR X j) h = 0 := by
  have e1 := mxF_le (by have := R.hh; omega) (R.hp i hi)
  have e2 := mxF_le (by have := R.hh; omega) (R.hp j hj)
  unfold brC fitB
  rw [R.hv i hi, R.hv j hj, inB_iff.2 R.hh, decide_eq_false e1, decide_eq_false e2, R.hn i hi, R.hn j hj]
  simp
theorem RoutOk.brlen {h : Int} {X : List Part2} (R : RoutOk h X) (k : Nat) : (brAt h X k).length ≤ 1024 := short_le R.hh (R.sq k) (R.sq (k + 1))
theorem RoutOk.entry {h : Int} {X : List Part2} (R : RoutOk h X) : entryL (patR X 0) h = brAt h X 0 := by
  have h0 : 0 < X.length := by have := R.hl; omega
  unfold entryL brAt
  rw [R.br h0 h0, seq_zero, seq_succ h0, R.hn 0 h0]; rfl
theorem RoutOk.exit {h : Int} {X : List Part2} (R : RoutOk h X) : exitL (patR X (X.length - 1)) h = brAt h X X.length := by
  have h0 : X.length - 1 < X.length := by have := R.hl; omega
  have e : seqS h X X.length = stR h X (X.length - 1) := by
    have h1 := seq_succ (h := h) h0
    rw [show X.length - 1 + 1 = X.length by omega] at h1
    exact h1
  unfold exitL brAt
  rw [R.br h0 h0, seq_last, e, R.hn _ h0]; rfl
theorem RoutOk.mid {h : Int} {X : List Part2} (_ : RoutOk h X) {k : Nat} (hk : k + 1 < X.length) : bridgeL (patR X k) (patR X (k + 1)) h = brAt h X (k + 1) := by
  unfold bridgeL brAt
  rw [seq_succ (by omega), seq_succ hk]; rfl
end Go.Proofs.YtioemkdapoombaaGreatDoor
