/- How an argument that is a slice of slices of int64 reads. -/
import Derived.Test.YtjokodlappeapaaDoorArgs
import Derived.Test.YtjokodlappeapaaDoorMemR
namespace Go.Proofs.YtjokodlappeapaaDoor
open Go.ChangeShapes Go.WideShapes Go.ChangeAt Go.RowKit
set_option linter.unusedVariables false
section
variable {H : Type} {enc : TypeId × Value → H} {W : World} {base : Nat} {v : Value} {d : DataW H} {p : List MemPlace}
theorem cells_ints1 : Tryd.prog.cellsOf 34 = 1 := by kernel_rfl
open Classical in
theorem rdG_of {fuel : Nat} {c : Value} {x : DataW H × List MemPlace} (h : DataW.trod enc Tryd.prog W 0 (fun _ => true) true fuel 43 [c] = some x) : ∃ X, RdG W c X := by
  rcases Deep.open_slice1 Tryd.underlying43 cells_ints1 h with ⟨hcs, _⟩ | ⟨a, len, cap, m, n, V, D, Pl, hcs, _, hl, hm, hmm, _, hx⟩
  · simp only [List.cons.injEq, and_true] at hcs
    subst hcs
    exact ⟨[], none, 0, rfl, by simp, fun k hk => by simp at hk⟩
  · simp only [List.cons.injEq, and_true] at hcs
    subst hcs
    simp only [if_true] at hmm
    subst hmm
    have hr : ∀ i, i < m → ∃ xs, RdI W (V i) xs := fun i hi => rdI_of (hx i hi).2
    have hlm : len ≤ 9223372036854775807 := by unfold maxLen at hm; omega
    refine ⟨(List.range len).map fun i => if hi : ∃ xs, RdI W (V i) xs then Classical.choose hi else [], some a, m, by simp, by simpa using hlm, fun k hk => ?_⟩
    have hk' : k < len := by simpa using hk
    obtain ⟨b, off, spot⟩ := a
    have hspot : spot = none := by
      have := World.cell?_spot (hx 0 (by omega)).1
      simpa [Addr.add] using this
    subst hspot
    have hi := hr k (by omega)
    refine ⟨b, off, V k, rfl, ?_, ?_⟩
    · rw [← Go.WideShapes.add_plain]; exact (hx k (by omega)).1
    · have e : ((List.range len).map fun i => if hi : ∃ xs, RdI W (V i) xs then Classical.choose hi else []).getD k [] = Classical.choose hi := by
        simp [List.getD, hk', hi]
      rw [e]
      exact Classical.choose_spec hi
def Arg_rows (w : World) (v : Value) : Prop := ∃ X, RdG w v X
set_option maxRecDepth 100000 in
theorem open_rows (hv : Value.okWide Tryd.prog W .any base 43 v) (h : DataW.Trod enc Tryd.prog W 0 (fun _ => true) true 43 v d p) : Arg_rows W v := by
  obtain ⟨a0, len, cap, rfl⟩ := okWide_slice Tryd.underlying43 hv
  obtain ⟨fuel, hf⟩ := h
  exact rdG_of hf
end
end Go.Proofs.YtjokodlappeapaaDoor
