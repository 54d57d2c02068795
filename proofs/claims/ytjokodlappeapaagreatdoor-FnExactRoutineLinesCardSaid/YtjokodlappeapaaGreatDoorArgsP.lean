/- How an argument that is a routine reads. -/
import Derived.Test.YtjokodlappeapaaGreatDoorArgsF
import Derived.Test.YtjokodlappeapaaGreatDoorMemP
namespace Go.Proofs.YtjokodlappeapaaGreatDoor
open Go.ChangeShapes Go.WideShapes Go.ChangeAt Go.RowKit
set_option linter.unusedVariables false
section
variable {H : Type} {enc : TypeId × Value → H} {W : World} {base : Nat} {v : Value} {d : DataW H} {p : List MemPlace}
def rowPt (x : Value × List Int × Int) : List Value := [x.1, .int .i64 x.2.2]
theorem rowPt_len (x : Value × List Int × Int) : (rowPt x).length = 2 := rfl
theorem cells_Part : Tryz.prog.cellsOf 110 = 2 := by kernel_rfl
theorem cells_intsP : Tryz.prog.cellsOf 42 = 1 := by kernel_rfl
theorem cells_Parts : Tryz.prog.cellsOf 22 = 1 := by kernel_rfl
theorem cells_Routine : Tryz.prog.cellsOf 24 = 2 := by kernel_rfl
set_option maxRecDepth 100000 in
theorem part_of {n : Nat} {cs : List Value} {y : DataW H × List MemPlace} (hl : cs.length = 2) (h : DataW.trod enc Tryz.prog W 0 (fun _ => true) true n 110 cs = some y) : ∃ a : Value × List Int × Int, cs = rowPt a ∧ RdI W a.1 a.2.1 := by
  obtain ⟨c0, c1, rfl⟩ := list2 hl
  obtain ⟨y0, n0, h0⟩ := field_of Tryz.underlying110 h 0 42 0 1 rfl cells_intsP
  obtain ⟨y1, n1, h1⟩ := field_of Tryz.underlying110 h 1 2 1 1 rfl cells_int64
  obtain ⟨xs, hx⟩ := rdI_of h0
  obtain ⟨b, rfl, _⟩ := isInt_of h1
  exact ⟨(c0, xs, b), rfl, hx⟩
def Arg_Routine (w : World) (v : Value) : Prop := ∃ (v1 : Value) (X : List Part2) (h : Int), v = .agg #[.int .i64 h, v1] ∧ RdP w v1 X
theorem rdP_of {w : World} {v : Value} {xs : List (Value × List Int × Int)} (h : RdRow 2 rowPt w v xs) (hq : ∀ a ∈ xs, RdI w a.1 a.2.1) : RdP w v (xs.map (·.2)) := by
  obtain ⟨a, cap, hv, hl, hc⟩ := h
  refine ⟨a, cap, by rw [List.length_map]; exact hv, by rw [List.length_map]; exact hl, fun k hk => ?_⟩
  have hk' : k < xs.length := by simpa using hk
  obtain ⟨b, off, ha, hx⟩ := hc k hk'
  have h0 := hx 0 xs[k].1 rfl
  rw [Nat.add_zero] at h0
  exact ⟨b, off, xs[k].1, ha, h0, by rw [List.getElem_map]; exact hx 1 _ rfl, by rw [List.getElem_map]; exact hq _ (List.getElem_mem hk')⟩
set_option maxRecDepth 100000 in
theorem open_Routine (hv : Value.okWide Tryz.prog W .any base 24 v) (h : DataW.Trod enc Tryz.prog W 0 (fun _ => true) true 24 v d p) : Arg_Routine W v := by
  obtain ⟨cs, hcs, hsz⟩ := okWide_struct Tryz.underlying24 hv
  obtain ⟨n, hn⟩ := trod_here hcs _ h
  obtain ⟨c0, c1, hl⟩ := list2 (cs := cs.toList) (by simpa using hsz.trans cells_Routine)
  rw [hl] at hn
  obtain ⟨y0, n0, h0⟩ := field_of Tryz.underlying24 hn 0 2 0 1 rfl cells_int64
  obtain ⟨y1, n1, h1⟩ := field_of Tryz.underlying24 hn 1 22 1 1 rfl cells_Parts
  obtain ⟨t, rfl, _⟩ := isInt_of h0
  obtain ⟨xs, hx, hq⟩ := rows_of (row := rowPt) (Q := fun a => RdI W a.1 a.2.1) Tryz.underlying22 cells_Part (by decide) rowPt_len (fun n cs y hl h => part_of hl h) h1
  refine ⟨c1, xs.map (·.2), t, ?_, rdP_of hx hq⟩
  subst hcs
  congr 1
  exact Array.toList_inj.1 hl
end
end Go.Proofs.YtjokodlappeapaaGreatDoor
