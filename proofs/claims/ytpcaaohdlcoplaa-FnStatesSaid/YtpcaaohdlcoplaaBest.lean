/- Contracts of BestBridge, the program's. -/
import Derived.Test.YtpcaaohdlcoplaaPatW
namespace Go.Proofs.Ytpcaaohdlcoplaa
open Go.ChangeShapes Go.WideShapes Go.ChangeAt Go.RowKit
set_option linter.unusedVariables false
set_option linter.unusedSimpArgs false
/-- the states before the first k beats -/
def stsTo (p : List Int) (h : Int) (k : Nat) : List Int := (List.range k).map fun i : Nat => stM p i h
def stsL (p : List Int) (h : Int) : List Int := stsTo p h p.length
theorem stsTo_len (p : List Int) (h : Int) (k : Nat) : (stsTo p h k).length = k := by simp [stsTo]
theorem stsTo_succ (p : List Int) (h : Int) (k : Nat) : stsTo p h (k + 1) = stsTo p h k ++ [stM p k h] := by simp [stsTo, List.range_succ]
theorem stsL_len (p : List Int) (h : Int) : (stsL p h).length = p.length := stsTo_len _ _ _
theorem stsL_at {p : List Int} {h : Int} {k : Nat} (hk : k < p.length) : (stsL p h).getD k 0 = stM p k h := by simp [stsL, stsTo, List.getD, hk]
abbrev C3 : Type := Int × Int × Int
def bStep (c : C3) (i k d : Int) : C3 := bif decide (c.2.2 < 0) || decide (d < c.2.2) then (i, k, d) else c
def bRow (D : Nat → Nat → Int) (i : Nat) (c : C3) : Nat → C3
  | 0 => c
  | j + 1 => bStep (bRow D i c j) i j (D i j)
def bTo (D : Nat → Nat → Int) (m : Nat) : Nat → C3
  | 0 => (0, 0, -1)
  | i + 1 => bRow D i (bTo D m i) m
theorem bRow_succ (D : Nat → Nat → Int) (i j : Nat) (c : C3) : bRow D i c (j + 1) = bStep (bRow D i c j) i j (D i j) := rfl
theorem bTo_succ (D : Nat → Nat → Int) (m i : Nat) : bTo D m (i + 1) = bRow D i (bTo D m i) m := rfl
theorem bStep_yes {c : C3} {i k d : Int} (h : c.2.2 < 0 ∨ d < c.2.2) : bStep c i k d = (i, k, d) := by
  unfold bStep
  rcases h with h | h <;> simp [h]
theorem bStep_no {c : C3} {i k d : Int} (h1 : ¬ c.2.2 < 0) (h2 : ¬ d < c.2.2) : bStep c i k d = c := by
  unfold bStep
  simp [h1, h2]
noncomputable def bestD (a b : List Int) (h : Int) (i j : Nat) : Int := farM h (stM a i h) (stM b j h)
noncomputable def bestT (a b : List Int) (h : Int) : C3 := bTo (bestD a b h) b.length a.length
set_option maxHeartbeats 1000000 in
theorem c_impl_statesOf (p : List Int) (h : Int) (v : Value) (w : World) (hr : RdI w v p) (hv : validP p = true) (hh : 1 ≤ h ∧ h ≤ 10) :
    Calls Try.prog 52 #[v, .int .i64 h] w fun e w' => ∃ u, e = .returned u ∧ OwnS w.heap.size w'.heap.size h w' u (stsL p h) ∧ Below w.heap.size w w' := by
  have HR := Lib.hid hr
  have hln := (validP_iff.1 hv).1.2
  have HV := Lib.hid hv
  obtain ⟨a1, cap1, rfl, hl1, _⟩ := hr
  clear hv
  go_enter Try.func52, Try.ntmps52
  go_wp2_with (go_at_call 98; refine (c_impl_period _ _ _ _ (by omega)).mono ?_; rintro e w1 ⟨rfl, rfl⟩)
  go_loopw [5, 10] (fun u i wr => ∃ k : Nat, k ≤ p.length ∧ i = .int .i64 k ∧ OwnS w.heap.size wr.heap.size h wr u (stsTo p h k) ∧ Below w.heap.size w wr) (fun _ i _ => p.length - (intOf i).toNat)
  case atStart => exact ⟨0, by omega, rfl, (OwnRow.made rfl rfl (Nat.le_refl _)).tight, by (repeat (first | (with_reducible assumption) | (with_reducible exact Below.refl _ _) | (with_reducible refine Below.setCell ?_ (by first | (simp; done) | (simp; omega)) _) | (with_reducible refine Below.al ?_ _) | (with_reducible refine Below.dr ?_) | (with_reducible refine Below.drN ?_ _) | (with_reducible refine Below.tr ?_ (by with_reducible assumption))))⟩
  case round =>
    obtain ⟨k, hk, rfl, hown, hb0⟩ := hrel
    have hsl := stsTo_len p h k
    have hs0 := hb0.size
    by_cases hlt : k < p.length
    · have HM := Lib.hid (stsTo_succ p h k)
      have hll : (stsTo p h k).length < 1000000000 := by omega
      clear hsl
      go_wp2_with fail
      refine (c_impl_stateOf p (k : Int) h _ _ (HR.out.below hb0) HV.out (by omega) hh).mono ?_; rintro e w2 ⟨rfl, hb2⟩
      have hown2 := hown.below hb2
      have hs2 := hb2.size
      have B2 := hb0.tr hb2
      go_wp2_with (at_builtin; refine push_row (row := rowS h) rfl _ _ _ _ rfl Try.underlying29 (.agg #[.int .i64 0, .int .i64 0]) 16 infoS rfl (by decide) (by decide) (rowS_len h) w.heap.size _ _ _ (stM p (k : Int) h) #[.int .i64 h, .int .i64 (stM p (k : Int) h)] _ rfl (rowS_one h _) rfl rfl (by exact hown2) hll (by omega) ?_; intro v' w3 hown3 hb3 hs3)
      go_roundw
      case rel => exact ⟨k + 1, by omega, by go_num, by rw [HM.out]; exact hown3, hb3 _ B2⟩
      case measure => simp [intOf]; omega
    · obtain rfl : k = p.length := by omega
      have HK : Hid (stsTo p h p.length = stsL p h) := rfl
      go_wp2
      go_ret
      exact ⟨_, rfl, by rw [← HK.out]; exact hown, hb0⟩
set_option maxHeartbeats 1000000 in
theorem c_spec_l08States (p : List Int) (h : Int) (v : Value) (w : World) (hr : RdI w v p) (hv : validP p = true) (hh : 1 ≤ h ∧ h ≤ 10) :
    Calls Try.prog 55 #[v, .int .i64 h] w fun e w' => ∃ u, e = .returned u ∧ OwnS w.heap.size w'.heap.size h w' u (stsL p h) ∧ Below w.heap.size w w' := by
  have HR := Lib.hid hr
  have hln := (validP_iff.1 hv).1.2
  have HV := Lib.hid hv
  obtain ⟨a1, cap1, rfl, hl1, _⟩ := hr
  clear hv
  go_enter Try.func55, Try.ntmps55
  go_wp2
  go_loopw [5, 6] (fun u i wr => ∃ k : Nat, k ≤ p.length ∧ i = .int .i64 k ∧ OwnS w.heap.size wr.heap.size h wr u (stsTo p h k) ∧ Below w.heap.size w wr) (fun _ i _ => p.length - (intOf i).toNat)
  case atStart => exact ⟨0, by omega, rfl, (OwnRow.made rfl rfl (Nat.le_refl _)).tight, by (repeat (first | (with_reducible assumption) | (with_reducible exact Below.refl _ _) | (with_reducible refine Below.setCell ?_ (by first | (simp; done) | (simp; omega)) _) | (with_reducible refine Below.al ?_ _) | (with_reducible refine Below.dr ?_) | (with_reducible refine Below.drN ?_ _) | (with_reducible refine Below.tr ?_ (by with_reducible assumption))))⟩
  case round =>
    obtain ⟨k, hk, rfl, hown, hb0⟩ := hrel
    have hsl := stsTo_len p h k
    have hs0 := hb0.size
    by_cases hlt : k < p.length
    · have HM := Lib.hid (stsTo_succ p h k)
      have hll : (stsTo p h k).length < 1000000000 := by omega
      clear hsl
      go_wp2_with fail
      refine (c_spec_l08Of p (k : Int) h _ _ (HR.out.below hb0) HV.out (by omega) hh).mono ?_; rintro e w2 ⟨rfl, hb2⟩
      have hown2 := hown.below hb2
      have hs2 := hb2.size
      have B2 := hb0.tr hb2
      go_wp2_with (at_builtin; refine push_row (row := rowS h) rfl _ _ _ _ rfl Try.underlying29 (.agg #[.int .i64 0, .int .i64 0]) 16 infoS rfl (by decide) (by decide) (rowS_len h) w.heap.size _ _ _ (stM p (k : Int) h) #[.int .i64 h, .int .i64 (stM p (k : Int) h)] _ rfl (rowS_one h _) rfl rfl (by exact hown2) hll (by omega) ?_; intro v' w3 hown3 hb3 hs3)
      go_roundw
      case rel => exact ⟨k + 1, by omega, by go_num, by rw [HM.out]; exact hown3, hb3 _ B2⟩
      case measure => simp [intOf]; omega
    · obtain rfl : k = p.length := by omega
      have HK : Hid (stsTo p h p.length = stsL p h) := rfl
      go_wp2
      go_ret
      exact ⟨_, rfl, by rw [← HK.out]; exact hown, hb0⟩
end Go.Proofs.Ytpcaaohdlcoplaa
