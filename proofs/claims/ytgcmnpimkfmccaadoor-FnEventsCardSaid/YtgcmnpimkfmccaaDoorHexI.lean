/- RowB, HexS, HexI: laid one behind the other. -/
import Derived.Test.YtgcmnpimkfmccaaDoorMemR
import Derived.Test.YtgcmnpimkfmccaaDoorStates
import Derived.Laws.BytesArg
import Derived.Test.YtgcmnpimkfmccaaDoorLawS
section
set_option linter.unusedVariables false
namespace Go.Proofs.YtgcmnpimkfmccaaDoor
open Go.ChangeShapes Go.WideShapes Go.ChangeAt Go.RowKit
def rowB (n : Int) : List Value := [.int .u8 n]
theorem rowB_len (n : Int) : (rowB n).length = 1 := rfl
theorem rowB_one (n : Int) : ∀ u ∈ rowB n, u.oneCell' = true := by
  intro u hu
  simp only [rowB, List.mem_singleton] at hu
  subst hu; rfl
theorem infoB : (Tryd.prog.info? 5).map (fun i => (i.zero, i.size, i.bytes)) = some (some (.int .u8 0), 1, 1) := by kernel_rfl
abbrev OwnB (lo hi : Nat) (w : World) (v : Value) (xs : List Int) : Prop := OwnRow 5 1 rowB lo hi w v xs
theorem conv_own {lo hi : Nat} {w : World} {v : Value} {xs : List Int} (h : OwnB lo hi w v xs) : (convert 22 9 v).run Tryd.prog w = .ok (.string (strOfNums xs)) w := by
  obtain ⟨a, cap, hv, _, hc⟩ := OwnRow.rd rowB_len h
  rcases h.1.2 with ⟨hv2, hn⟩ | ⟨g, cap2, cur, hv2, _⟩
  · have hx : xs = [] := List.eq_nil_of_length_eq_zero hn
    subst hx; subst hv2
    exact run_convert_bytes_nil _ _ _ Tryd.underlying22 Tryd.underlying5 _ _ _ Tryd.underlying9
  · subst hv2
    refine run_convert_bytes_arg _ _ _ Tryd.underlying22 Tryd.underlying5 g 0 xs.length cap2 xs rfl (fun i hi => ?_) _ Tryd.underlying9
    injection hv with e1 e2 e3
    obtain ⟨b, off, ha, hx⟩ := hc i hi
    rw [← e1] at ha
    cases ha
    have h0 := hx 0 _ rfl
    rw [List.getD_eq_getElem?_getD, List.getElem?_eq_getElem hi, Option.getD_some]
    simpa [rowB] using h0
end Go.Proofs.YtgcmnpimkfmccaaDoor
end
section
set_option linter.unusedVariables false
namespace Go.Proofs.YtgcmnpimkfmccaaDoor
open Go.ChangeShapes Go.WideShapes Go.ChangeAt Go.RowKit
/-- the code of a throw's character -/
def hexC (n : Int) : Int := if n < 10 then 48 + n else 87 + n
def hexT (xs : List Int) : ByteArray := strOfNums (xs.map hexC)
theorem hexT_size (xs : List Int) : (hexT xs).size = xs.length := by unfold hexT; rw [strOfNums_size, List.length_map]
theorem strOfNums_append (a b : List Int) : strOfNums (a ++ b) = strOfNums a ++ strOfNums b := by
  apply ByteArray.ext
  rw [ByteArray.data_append]
  simp [strOfNums]
theorem hexT_take (xs : List Int) (i : Nat) (h : i < xs.length) : hexT (xs.take (i + 1)) = hexT (xs.take i) ++ strOfNums [hexC xs[i]] := by
  unfold hexT
  rw [List.take_succ_eq_append_getElem h, List.map_append, strOfNums_append]; rfl
def digs : ByteArray := ⟨#[48, 49, 50, 51, 52, 53, 54, 55, 56, 57, 97, 98, 99, 100, 101, 102]⟩
theorem digs_at (n : Int) (h : 0 ≤ n ∧ n < 16) : digs.extract n.toNat (n + 1).toNat = strOfNums [hexC n] := by
  have : n = 0 ∨ n = 1 ∨ n = 2 ∨ n = 3 ∨ n = 4 ∨ n = 5 ∨ n = 6 ∨ n = 7 ∨ n = 8 ∨ n = 9 ∨ n = 10 ∨ n = 11 ∨ n = 12 ∨ n = 13 ∨ n = 14 ∨ n = 15 := by omega
  rcases this with rfl | rfl | rfl | rfl | rfl | rfl | rfl | rfl | rfl | rfl | rfl | rfl | rfl | rfl | rfl | rfl <;> decide
end Go.Proofs.YtgcmnpimkfmccaaDoor
end
section
set_option linter.unusedVariables false
namespace Go.Proofs.YtgcmnpimkfmccaaDoor
open Go.ChangeShapes Go.WideShapes Go.ChangeAt Go.RowKit
theorem digs_ix (n : Int) (h : 0 ≤ n ∧ n < 16) (w : World) : (Instr.index 9 (.string ⟨#[48, 49, 50, 51, 52, 53, 54, 55, 56, 57, 97, 98, 99, 100, 101, 102]⟩) (.int .i64 n)).run Tryd.prog w = .ok (.int .u8 (hexC n)) w := by
  have : n = 0 ∨ n = 1 ∨ n = 2 ∨ n = 3 ∨ n = 4 ∨ n = 5 ∨ n = 6 ∨ n = 7 ∨ n = 8 ∨ n = 9 ∨ n = 10 ∨ n = 11 ∨ n = 12 ∨ n = 13 ∨ n = 14 ∨ n = 15 := by omega
  rcases this with rfl | rfl | rfl | rfl | rfl | rfl | rfl | rfl | rfl | rfl | rfl | rfl | rfl | rfl | rfl | rfl <;> (rw [run_index_string w _ _ _ _ Tryd.underlying9, dif_pos (by decide)]; rfl)
end Go.Proofs.YtgcmnpimkfmccaaDoor
end
