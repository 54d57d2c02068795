/- Contracts of TransitionTable. -/
import Derived.Test.YtjokodlappeapaaDoorTab4
namespace Go.Proofs.YtjokodlappeapaaDoor
open Go.ChangeShapes Go.WideShapes Go.ChangeAt Go.RowKit
set_option linter.unusedVariables false
set_option linter.unusedSimpArgs false
theorem OwnG.nil {ES e : TypeId} {lo hi : Nat} (w : World) : OwnG ES e lo hi w (.slice none 0 0) [] :=
  ⟨[], rfl, ⟨by simp, Or.inl ⟨rfl, rfl⟩⟩, fun k hk => by simp [Value.ownBlock] at hk, fun i hi => by simp at hi, fun i j hi => by simp at hi, fun i b hi => by simp at hi⟩
theorem sumLen_push (X : List (List Int)) (y : List Int) : sumLen (X ++ [y]) = sumLen X + y.length := by
  unfold sumLen
  rw [List.map_append, List.sum_append]
  simp
theorem sumLen_among (h : Int) (S : List Int) : ∀ k, sumLen (amongTo h S k) ≤ k * S.length
  | 0 => by simp [amongTo, sumLen]
  | k + 1 => by
    rw [amongTo_succ, sumLen_push, Nat.succ_mul]
    have h1 := sumLen_among h S k
    have h2 := rowTo_len h S k S.length
    omega
noncomputable def ttL (X : List (List Int)) (h : Int) : List (List Int) := if tabC X h = 0 then tabL X h else []
theorem ttL_len (X : List (List Int)) (h : Int) : (ttL X h).length + sumLen (ttL X h) ≤ 1000000 := by
  unfold ttL
  by_cases hc : tabC X h = 0
  · rw [if_pos hc]
    have h8 := (tab_ok hc).2.1
    have hl := fstL_len X h
    have h1 := sumLen_among h (fstL X h) (fstL X h).length
    have h2 := amongTo_len h (fstL X h) (fstL X h).length
    unfold tabL amongL
    have : (fstL X h).length * (fstL X h).length ≤ 8 * 8 := Nat.mul_le_mul (by omega) (by omega)
    omega
  · rw [if_neg hc]
    simp [sumLen]
theorem c_impl_TransitionTable (X : List (List Int)) (h : Int) (v : Value) (w : World) (hr : RdG w v X) :
    Calls Tryd.prog 30 #[v, .int .i64 h] w fun e w' => ∃ r, e = .returned (.tuple #[r, .int .i64 (tabC X h)]) ∧ OwnGT w.heap.size w'.heap.size w' r (ttL X h) ∧ Below w.heap.size w w' := by
  have HR := Lib.hid hr
  clear hr
  cases hc : (tabC X h != 0)
  · have hc0 : tabC X h = 0 := by simpa using hc
    have HX : Hid (ttL X h = tabL X h) := by unfold Hid ttL; rw [if_pos hc0]
    have HC := Lib.hid hc0
    clear hc0
    go_enter Tryd.func30, Tryd.ntmps30
    go_wp2_with fail
    refine (c_impl_tableCode X h _ _ HR.out).mono ?_; rintro e w1 ⟨rfl, hb1⟩
    go_wp2_with fail
    refine (c_impl_table X h _ _ (HR.out.below hb1) HC.out).mono ?_; rintro e w2 ⟨u2, rfl, ho2, hb2⟩
    go_wp2
    go_ret2
    exact ⟨u2, by rw [HC.out]; rfl, by rw [HX.out]; exact ho2.wide hb1.size (Nat.le_refl _), hb1.tr hb2⟩
  · have hc0 : ¬ tabC X h = 0 := by simpa using hc
    have HX : Hid (ttL X h = []) := by unfold Hid ttL; rw [if_neg hc0]
    clear hc0
    go_enter Tryd.func30, Tryd.ntmps30
    go_wp2_with fail
    refine (c_impl_tableCode X h _ _ HR.out).mono ?_; rintro e w1 ⟨rfl, hb1⟩
    go_wp2
    go_ret2
    exact ⟨_, rfl, by rw [HX.out]; exact OwnG.nil _, hb1⟩
theorem c_spec_TransitionTable (X : List (List Int)) (h : Int) (v : Value) (w : World) (hr : RdG w v X) :
    Calls Tryd.prog 31 #[v, .int .i64 h] w fun e w' => ∃ r, e = .returned (.tuple #[r, .int .i64 (tabC X h)]) ∧ OwnGT w.heap.size w'.heap.size w' r (ttL X h) ∧ Below w.heap.size w w' := by
  have HR := Lib.hid hr
  clear hr
  cases hc : (tabC X h != 0)
  · have hc0 : tabC X h = 0 := by simpa using hc
    have HX : Hid (ttL X h = tabL X h) := by unfold Hid ttL; rw [if_pos hc0]
    have HC := Lib.hid hc0
    clear hc0
    go_enter Tryd.func31, Tryd.ntmps31
    go_wp2_with fail
    refine (c_spec_l23Code X h _ _ HR.out).mono ?_; rintro e w1 ⟨rfl, hb1⟩
    go_wp2_with fail
    refine (c_spec_l23Table X h _ _ (HR.out.below hb1) HC.out).mono ?_; rintro e w2 ⟨u2, rfl, ho2, hb2⟩
    go_wp2
    go_ret2
    exact ⟨u2, by rw [HC.out]; rfl, by rw [HX.out]; exact ho2.wide hb1.size (Nat.le_refl _), hb1.tr hb2⟩
  · have hc0 : ¬ tabC X h = 0 := by simpa using hc
    have HX : Hid (ttL X h = []) := by unfold Hid ttL; rw [if_neg hc0]
    clear hc0
    go_enter Tryd.func31, Tryd.ntmps31
    go_wp2_with fail
    refine (c_spec_l23Code X h _ _ HR.out).mono ?_; rintro e w1 ⟨rfl, hb1⟩
    go_wp2
    go_ret2
    exact ⟨_, rfl, by rw [HX.out]; exact OwnG.nil _, hb1⟩
end Go.Proofs.YtjokodlappeapaaDoor
