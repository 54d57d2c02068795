/- ArgsG, LawG: laid one behind the other. -/
import Derived.Test.YtjokodlappeapaaGreatDoorArgs
import Derived.Test.YtjokodlappeapaaGreatDoorMemR
import Derived.Test.YtjokodlappeapaaGreatDoorLawC
import Derived.Deep.RegionHeld3
section
set_option linter.unusedVariables false
namespace Go.Proofs.YtjokodlappeapaaGreatDoor
open Go.ChangeShapes Go.WideShapes Go.ChangeAt Go.RowKit
section
variable {H : Type} {enc : TypeId × Value → H} {W : World} {base : Nat} {v : Value} {d : DataW H} {p : List MemPlace}
theorem cells_ints1 : Tryz.prog.cellsOf 42 = 1 := by kernel_rfl
open Classical in
theorem rdG_of {fuel : Nat} {c : Value} {x : DataW H × List MemPlace} (h : DataW.trod enc Tryz.prog W 0 (fun _ => true) true fuel 63 [c] = some x) : ∃ X, RdG W c X := by
  rcases Deep.open_slice1 Tryz.underlying63 cells_ints1 h with ⟨hcs, _⟩ | ⟨a, len, cap, m, n, V, D, Pl, hcs, _, hl, hm, hmm, _, hx⟩
  · simp only [List.cons.injEq, and_true] at hcs
    subst hcs
    exact ⟨[], none, 0, rfl, by simp, fun k hk => by simp at hk⟩
  · simp only [List.cons.injEq, and_true] at hcs
    subst hcs
    simp only [if_true] at hmm
    subst hmm
    have hr : ∀ i, i < m → ∃ xs, RdI W (V i) xs := fun i hi => rdI_of (hx i hi).2
    have hlm : len ≤ 9223372036854775807 := by unfold maxLen at hm; omega
    refine ⟨(List.range len).map fun i => if hi : ∃ xs, RdI W (V i) xs then Classical.choose hi else [], some a, m, by simp, by simpa using hlm, fun k hk => ?_⟩
    have hk' : k < len := by simpa using hk
    obtain ⟨b, off, spot⟩ := a
    have hspot : spot = none := by
      have := World.cell?_spot (hx 0 (by omega)).1
      simpa [Addr.add] using this
    subst hspot
    have hi := hr k (by omega)
    refine ⟨b, off, V k, rfl, ?_, ?_⟩
    · rw [← Go.WideShapes.add_plain]; exact (hx k (by omega)).1
    · have e : ((List.range len).map fun i => if hi : ∃ xs, RdI W (V i) xs then Classical.choose hi else []).getD k [] = Classical.choose hi := by
        simp [List.getD, hk', hi]
      rw [e]
      exact Classical.choose_spec hi
def Arg_rows (w : World) (v : Value) : Prop := ∃ X, RdG w v X
set_option maxRecDepth 100000 in
theorem open_rows (hv : Value.okWide Tryz.prog W .any base 63 v) (h : DataW.Trod enc Tryz.prog W 0 (fun _ => true) true 63 v d p) : Arg_rows W v := by
  obtain ⟨a0, len, cap, rfl⟩ := okWide_slice Tryz.underlying63 hv
  obtain ⟨fuel, hf⟩ := h
  exact rdG_of hf
end
end Go.Proofs.YtjokodlappeapaaGreatDoor
end
section
set_option linter.unusedVariables false
namespace Go.Proofs.YtjokodlappeapaaGreatDoor
open Go.ChangeShapes Go.WideShapes Go.ChangeAt Go.RowKit
set_option linter.unusedSimpArgs false
abbrev OwnGG (lo hi : Nat) (w : World) (v : Value) (X : List (List Int)) : Prop := OwnG 42 2 lo hi w v X
def szLeftG (left len : Int) : Int := if left - len < 0 then -1 else left - len
theorem infoG1 : (Tryz.prog.info? 42).map (fun i => (i.zero, i.size, i.bytes)) = some (some (.slice none 0 0), 1, 24) := by kernel_rfl
theorem c_laws_szInt64S' (left : Int) (a : Option Addr) (len cap : Nat) (w : World) (hl : (len : Int) ≤ 9223372036854775807) (h0 : 0 ≤ left ∧ left ≤ 1048576) :
    Calls Tryz.prog 124 #[.slice a len cap, .int .i64 left] w fun e w' => e = .returned (.int .i64 (szLeftG left len)) ∧ w = w' := by
  by_cases h : left - (len : Int) < 0
  · have HN : Hid (szLeftG left len = -1) := if_pos h
    go_enter Tryz.func124, Tryz.ntmps124
    go_wp2
    go_ret
    exact ⟨by rw [HN.out]; rfl, rfl⟩
  · have HN : Hid (szLeftG left len = left - len) := if_neg h
    go_enter Tryz.func124, Tryz.ntmps124
    go_wp2
    go_ret
    exact ⟨by rw [HN.out]; rfl, rfl⟩
theorem eq_self (xs : List Int) (v1 v2 : Value) (w : World) (h1 : RdI w v1 xs) (h2 : RdI w v2 xs) :
    Calls Tryz.prog 139 #[v1, v2] w fun e w' => e = .returned (.bool true) ∧ Below w.heap.size w w' := by
  refine (c_laws_eqInt64S xs xs v1 v2 w h1 h2).mono ?_
  rintro e w2 ⟨rfl, hb⟩
  exact ⟨by simp, hb⟩
end Go.Proofs.YtjokodlappeapaaGreatDoor
end
