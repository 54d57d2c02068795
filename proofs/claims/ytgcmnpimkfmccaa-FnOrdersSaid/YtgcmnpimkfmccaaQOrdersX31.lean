/- The law OrdersX: what it rests on, part 31 of 48. -/
import Derived.Test.YtgcmnpimkfmccaaQOrdersX25
import Derived.Test.YtgcmnpimkfmccaaQOrdersX30
import Derived.Test.YtgcmnpimkfmccaaRows
import Derived.ProofKit
import Derived.OpenShut
import Derived.ChangeOld
import Derived.Lib.SmallJoins
import Derived.Laws.ResultCell
import Derived.Deep.Slices
import Derived.Test.YtgcmnpimkfmccaaQOrdersX01
import Derived.Test.YtgcmnpimkfmccaaQOrdersX03
section
namespace Go.Proofs.Ytgcmnpimkfmccaa
open Go.ChangeShapes Go.WideShapes Go.ChangeAt Go.RowKit
set_option linter.unusedSimpArgs false
set_option linter.unusedVariables false
/-- the throws up to part k, with the bridge behind it -/
noncomputable def thrTo (h : Int) (X : List Part2) : Nat → List Int
  | 0 => brAt h X 0
  | k + 1 => thrTo h X k ++ repL (patR X k) (timR X k).toNat ++ brAt h X (k + 1)
noncomputable def thrR (h : Int) (X : List Part2) : List Int := thrTo h X X.length
theorem pat_len {h : Int} {X : List Part2} (R : RoutOk h X) {k : Nat} (hk : k < X.length) : 1 ≤ (patR X k).length ∧ (patR X k).length ≤ 12 := by
  have hv := R.hv k hk
  unfold validP at hv
  rw [Bool.and_eq_true] at hv
  have := (okThrows_iff.1 hv.1).2
  omega
theorem rep_len {h : Int} {X : List Part2} (R : RoutOk h X) {k : Nat} (hk : k < X.length) {t : Nat} (ht : t ≤ 20) : (repL (patR X k) t).length ≤ 240 := by
  rw [repL_len]
  have := (pat_len R hk).2
  exact Nat.le_trans (Nat.mul_le_mul ht this) (by decide)
theorem thr_len {h : Int} {X : List Part2} (R : RoutOk h X) : ∀ k, k ≤ X.length → (thrTo h X k).length ≤ 1024 + k * 1264
  | 0, _ => by have := R.brlen 0; simp [thrTo]; exact this
  | k + 1, hk => by
    have ih := thr_len R k (by omega)
    have h1 := R.brlen (k + 1)
    have h2 := rep_len R (k := k) (by omega) (t := (timR X k).toNat) (by have := R.ht k (by omega); omega)
    show ((thrTo h X k ++ repL (patR X k) (timR X k).toNat ++ brAt h X (k + 1))).length ≤ _
    rw [List.length_append, List.length_append, Nat.succ_mul]
    omega
theorem br_row {h : Int} {X : List Part2} {k : Nat} (hk : k < X.length + 1) : (brR h X).getD k [] = brAt h X k := by
  unfold brR brTo
  simp [List.getD, hk]
noncomputable def thX (h : Int) (X : List Part2) : List Int := bif validR h X then thrR h X else []
end Go.Proofs.Ytgcmnpimkfmccaa
end
section
namespace Go.Proofs.Ytgcmnpimkfmccaa
open Go.ChangeShapes Go.WideShapes Go.ChangeAt Go.RowKit
set_option linter.unusedVariables false
def pmul (X : List Part2) (i : Nat) : Int := timR X i * ((patR X i).length : Int)
theorem thr_sum {h : Int} {X : List Part2} (R : RoutOk h X) : ∀ k, k ≤ X.length → ((thrTo h X k).length : Int) = sumN (fun i => ((brAt h X i).length : Int)) (k + 1) + sumN (pmul X) k
  | 0, _ => by simp [thrTo, sumN]
  | k + 1, hk => by
    have ih := thr_sum R k (by omega)
    have ht := R.ht k (by omega)
    show ((thrTo h X k ++ repL (patR X k) (timR X k).toNat ++ brAt h X (k + 1)).length : Int) = _
    rw [List.length_append, List.length_append, repL_len]
    have e1 : (((timR X k).toNat * (patR X k).length : Nat) : Int) = pmul X k := by
      rw [Int.natCast_mul]
      show (((timR X k).toNat : Nat) : Int) * _ = timR X k * _
      rw [Int.toNat_of_nonneg (by omega)]
    show _ = sumN (fun i => ((brAt h X i).length : Int)) (k + 1) + ((brAt h X (k + 1)).length : Int) + (sumN (pmul X) k + pmul X k)
    omega
end Go.Proofs.Ytgcmnpimkfmccaa
end
section
namespace Go.Proofs.Ytgcmnpimkfmccaa
open Go.ChangeShapes Go.WideShapes Go.ChangeAt Go.RowKit
set_option linter.unusedVariables false
set_option linter.unusedSimpArgs false
def RdB (w : World) (v : Value) (bs : List Int) : Prop :=
  ∃ a cap, v = .slice a bs.length cap ∧ bs.length ≤ 9223372036854775807 ∧ (∀ k, k < bs.length → ∃ b off, a = some ⟨b, off, none⟩ ∧ w.cell? ⟨b, off + k, none⟩ = some (.int .u8 (bs.getD k 0))) ∧ ∀ k, 0 ≤ bs.getD k 0 ∧ bs.getD k 0 ≤ 255
theorem RdB.below {a b : World} {v : Value} {bs : List Int} (h : RdB a v bs) (hb : Below a.heap.size a b) : RdB b v bs := by
  obtain ⟨ad, cap, hv, hl, hc, hr⟩ := h
  refine ⟨ad, cap, hv, hl, fun k hk => ?_, hr⟩
  obtain ⟨bl, off, ha, hcell⟩ := hc k hk
  exact ⟨bl, off, ha, by rw [hb.cell (p := ⟨bl, off + k, none⟩) (World.block_lt_of_cell? a _ hcell)]; exact hcell⟩
section
variable {H : Type} {enc : TypeId × Value → H} {W : World} {base : Nat} {v : Value} {d : DataW H} {p : List MemPlace}
theorem cells_u8 : Try.prog.cellsOf 5 = 1 := by kernel_rfl
theorem rdB_of {fuel : Nat} {c : Value} {x : DataW H × List MemPlace} (h : DataW.trod enc Try.prog W 0 (fun _ => true) true fuel 22 [c] = some x) : ∃ bs, RdB W c bs := by
  rcases open_ints Try.underlying22 Try.underlying5 cells_u8 h with ⟨hcs, _⟩ | ⟨a, len, cap, zs, hcs, _, hl, hm, hz, _, hcell, hwz⟩
  · simp only [List.cons.injEq, and_true] at hcs
    subst hcs
    exact ⟨[], none, 0, rfl, by simp, fun k hk => by simp at hk, fun k => by simp⟩
  · simp only [List.cons.injEq, and_true] at hcs
    subst hcs
    have hzl : zs.length = cap := by simpa using hz
    have hlen : (zs.take len).length = len := by rw [List.length_take]; omega
    refine ⟨zs.take len, some a, cap, by rw [hlen], by rw [hlen]; unfold maxLen at hm; omega, fun k hk => ?_, fun k => ?_⟩
    · rw [hlen] at hk
      obtain ⟨b, off, rfl, hc⟩ := ints_at hcell (by omega)
      refine ⟨b, off, rfl, ?_⟩
      have e : (zs.take len).getD k 0 = zs.getD k 0 := by simp [List.getD, hk]
      rw [e]
      exact hc k (by omega)
    · by_cases hk : k < (zs.take len).length
      · have e : (zs.take len).getD k 0 = (zs.take len)[k] := by rw [List.getD_eq_getElem?_getD, List.getElem?_eq_getElem hk]; rfl
        have hmem : (zs.take len)[k] ∈ zs := List.mem_of_mem_take (List.getElem_mem hk)
        have hw := hwz _ hmem
        rw [e]
        exact bounds_u8 hw
      · have e : (zs.take len).getD k 0 = 0 := by
          rw [List.getD_eq_getElem?_getD, List.getElem?_eq_none (by omega)]; rfl
        rw [e]; omega
def Arg_bytes (w : World) (v : Value) : Prop := ∃ bs, RdB w v bs
set_option maxRecDepth 100000 in
theorem open_bytes (hv : Value.okWide Try.prog W .any base 22 v) (h : DataW.Trod enc Try.prog W 0 (fun _ => true) true 22 v d p) : Arg_bytes W v := by
  obtain ⟨a0, len, cap, rfl⟩ := okWide_slice Try.underlying22 hv
  obtain ⟨fuel, hf⟩ := h
  exact rdB_of hf
end
end Go.Proofs.Ytgcmnpimkfmccaa
end
