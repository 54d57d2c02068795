/- How an argument that is a slice of bytes reads; the small helpers of the laws that draw. -/
import Derived.Test.YtgcmnpimkfmccaaDoorArgs
import Derived.Test.YtgcmnpimkfmccaaDoorBase
namespace Go.Proofs.YtgcmnpimkfmccaaDoor
open Go.ChangeShapes Go.WideShapes Go.ChangeAt Go.RowKit
set_option linter.unusedVariables false
set_option linter.unusedSimpArgs false
def RdB (w : World) (v : Value) (bs : List Int) : Prop :=
  ∃ a cap, v = .slice a bs.length cap ∧ bs.length ≤ 9223372036854775807 ∧ (∀ k, k < bs.length → ∃ b off, a = some ⟨b, off, none⟩ ∧ w.cell? ⟨b, off + k, none⟩ = some (.int .u8 (bs.getD k 0))) ∧ ∀ k, 0 ≤ bs.getD k 0 ∧ bs.getD k 0 ≤ 255
theorem RdB.below {a b : World} {v : Value} {bs : List Int} (h : RdB a v bs) (hb : Below a.heap.size a b) : RdB b v bs := by
  obtain ⟨ad, cap, hv, hl, hc, hr⟩ := h
  refine ⟨ad, cap, hv, hl, fun k hk => ?_, hr⟩
  obtain ⟨bl, off, ha, hcell⟩ := hc k hk
  exact ⟨bl, off, ha, by rw [hb.cell (p := ⟨bl, off + k, none⟩) (World.block_lt_of_cell? a _ hcell)]; exact hcell⟩
section
variable {H : Type} {enc : TypeId × Value → H} {W : World} {base : Nat} {v : Value} {d : DataW H} {p : List MemPlace}
theorem cells_u8 : Tryd.prog.cellsOf 5 = 1 := by kernel_rfl
theorem rdB_of {fuel : Nat} {c : Value} {x : DataW H × List MemPlace} (h : DataW.trod enc Tryd.prog W 0 (fun _ => true) true fuel 22 [c] = some x) : ∃ bs, RdB W c bs := by
  rcases open_ints Tryd.underlying22 Tryd.underlying5 cells_u8 h with ⟨hcs, _⟩ | ⟨a, len, cap, zs, hcs, _, hl, hm, hz, _, hcell, hwz⟩
  · simp only [List.cons.injEq, and_true] at hcs
    subst hcs
    exact ⟨[], none, 0, rfl, by simp, fun k hk => by simp at hk, fun k => by simp⟩
  · simp only [List.cons.injEq, and_true] at hcs
    subst hcs
    have hzl : zs.length = cap := by simpa using hz
    have hlen : (zs.take len).length = len := by rw [List.length_take]; omega
    refine ⟨zs.take len, some a, cap, by rw [hlen], by rw [hlen]; unfold maxLen at hm; omega, fun k hk => ?_, fun k => ?_⟩
    · rw [hlen] at hk
      obtain ⟨b, off, rfl, hc⟩ := ints_at hcell (by omega)
      refine ⟨b, off, rfl, ?_⟩
      have e : (zs.take len).getD k 0 = zs.getD k 0 := by simp [List.getD, hk]
      rw [e]
      exact hc k (by omega)
    · by_cases hk : k < (zs.take len).length
      · have e : (zs.take len).getD k 0 = (zs.take len)[k] := by rw [List.getD_eq_getElem?_getD, List.getElem?_eq_getElem hk]; rfl
        have hmem : (zs.take len)[k] ∈ zs := List.mem_of_mem_take (List.getElem_mem hk)
        have hw := hwz _ hmem
        rw [e]
        exact bounds_u8 hw
      · have e : (zs.take len).getD k 0 = 0 := by
          rw [List.getD_eq_getElem?_getD, List.getElem?_eq_none (by omega)]; rfl
        rw [e]; omega
def Arg_bytes (w : World) (v : Value) : Prop := ∃ bs, RdB w v bs
set_option maxRecDepth 100000 in
theorem open_bytes (hv : Value.okWide Tryd.prog W .any base 22 v) (h : DataW.Trod enc Tryd.prog W 0 (fun _ => true) true 22 v d p) : Arg_bytes W v := by
  obtain ⟨a0, len, cap, rfl⟩ := okWide_slice Tryd.underlying22 hv
  obtain ⟨fuel, hf⟩ := h
  exact rdB_of hf
end
theorem c_laws_a2Long (a1 a2 : Option Addr) (n1 c1 n2 c2 : Nat) (w : World) (h1 : n1 ≤ 9223372036854775807) (h2 : n2 ≤ 9223372036854775807) :
    Calls Tryd.prog 4 #[.slice a1 n1 c1, .slice a2 n2 c2] w fun e w' => e = .returned (.bool (decide ((n1 : Int) > 3000) || decide ((n2 : Int) > 3000))) ∧ w = w' := by
  by_cases h : (n1 : Int) > 3000
  · go_enter Tryd.func4, Tryd.ntmps4
    go_wp2
    go_ret
    exact ⟨by simp [h], rfl⟩
  · by_cases h' : (n2 : Int) > 3000
    · go_enter Tryd.func4, Tryd.ntmps4
      go_wp2
      go_ret
      exact ⟨by simp [h, h'], rfl⟩
    · go_enter Tryd.func4, Tryd.ntmps4
      go_wp2
      go_ret
      exact ⟨by simp [h, h'], rfl⟩
theorem c_laws_a2At (bs : List Int) (at' : Nat) (p n : Int) (v : Value) (w : World) (h : RdB w v bs) (hn : n ≤ 9223372036854775807) (hp : p = (at' : Int)) :
    Calls Tryd.prog 7 #[v, .int .i64 p, .int .i64 n] w fun e w' => ∃ x : Int, e = .returned (.int .i64 x) ∧ 0 ≤ x ∧ (1 ≤ n → x < n) ∧ w = w' := by
  obtain ⟨a, cap, rfl, hl, hc, hr⟩ := h
  subst hp
  by_cases hlt : at' < bs.length
  · obtain ⟨b, off, rfl, hx⟩ := hc at' hlt
    have hb := hr at'
    clear hc hr
    generalize bs.getD at' 0 = y at *
    have hg : ¬ ((at' : Int) ≥ (bs.length : Int)) := by omega
    by_cases hn1 : n < 1
    · go_enter Tryd.func7, Tryd.ntmps7
      go_wp2
      go_ret
      exact ⟨_, rfl, by omega, by omega, rfl⟩
    · have hm := Int.emod_lt_of_pos y (show 0 < n by omega)
      have hm0 := Int.emod_nonneg y (show n ≠ 0 by omega)
      have hme : y.tmod n = y % n := Int.tmod_eq_emod_of_nonneg (by omega)
      go_enter Tryd.func7, Tryd.ntmps7
      go_wp2
      go_ret
      exact ⟨y.tmod n, by go_num, by omega, by omega, rfl⟩
  · clear hc hr
    have hg : ((at' : Int) ≥ (bs.length : Int)) := by omega
    go_enter Tryd.func7, Tryd.ntmps7
    go_wp2
    go_ret
    exact ⟨_, rfl, by omega, by omega, rfl⟩
end Go.Proofs.YtgcmnpimkfmccaaDoor
