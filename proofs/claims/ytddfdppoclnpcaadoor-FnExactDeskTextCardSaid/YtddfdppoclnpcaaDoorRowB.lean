/- Rows of bytes, and the string of such a row. -/
import Derived.Test.YtddfdppoclnpcaaDoorMemR
import Derived.Test.YtddfdppoclnpcaaDoorStates
import Derived.Laws.BytesArg
namespace Go.Proofs.YtddfdppoclnpcaaDoor
open Go.ChangeShapes Go.WideShapes Go.ChangeAt Go.RowKit
set_option linter.unusedVariables false
def rowB (n : Int) : List Value := [.int .u8 n]
theorem rowB_len (n : Int) : (rowB n).length = 1 := rfl
theorem rowB_one (n : Int) : ∀ u ∈ rowB n, u.oneCell' = true := by
  intro u hu
  simp only [rowB, List.mem_singleton] at hu
  subst hu; rfl
theorem infoB : (Tryd.prog.info? 5).map (fun i => (i.zero, i.size, i.bytes)) = some (some (.int .u8 0), 1, 1) := by kernel_rfl
abbrev OwnB (lo hi : Nat) (w : World) (v : Value) (xs : List Int) : Prop := OwnRow 5 1 rowB lo hi w v xs
theorem conv_own {lo hi : Nat} {w : World} {v : Value} {xs : List Int} (h : OwnB lo hi w v xs) : (convert 95 9 v).run Tryd.prog w = .ok (.string (strOfNums xs)) w := by
  obtain ⟨a, cap, hv, _, hc⟩ := OwnRow.rd rowB_len h
  rcases h.1.2 with ⟨hv2, hn⟩ | ⟨g, cap2, cur, hv2, _⟩
  · have hx : xs = [] := List.eq_nil_of_length_eq_zero hn
    subst hx; subst hv2
    exact run_convert_bytes_nil _ _ _ Tryd.underlying95 Tryd.underlying5 _ _ _ Tryd.underlying9
  · subst hv2
    refine run_convert_bytes_arg _ _ _ Tryd.underlying95 Tryd.underlying5 g 0 xs.length cap2 xs rfl (fun i hi => ?_) _ Tryd.underlying9
    injection hv with e1 e2 e3
    obtain ⟨b, off, ha, hx⟩ := hc i hi
    rw [← e1] at ha
    cases ha
    have h0 := hx 0 _ rfl
    rw [List.getD_eq_getElem?_getD, List.getElem?_eq_getElem hi, Option.getD_some]
    simpa [rowB] using h0
end Go.Proofs.YtddfdppoclnpcaaDoor
