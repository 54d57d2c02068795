/- The law WrittenX: what it rests on, part 4 of 46. -/
import Derived.Test.YtioemkdapoombaaGreatDoorRows
import Derived.ProofKit
import Derived.OpenShut
import Derived.ChangeOld
import Derived.Lib.SmallJoins
import Derived.Laws.ResultCell
import Derived.Deep.Slices
import Derived.Test.YtioemkdapoombaaGreatDoorQWrittenX02
import Derived.Test.YtioemkdapoombaaGreatDoorQWrittenX03
section
namespace Go.Proofs.YtioemkdapoombaaGreatDoor
open Go.ChangeShapes Go.WideShapes Go.ChangeAt Go.RowKit
set_option linter.unusedVariables false
set_option linter.unusedSimpArgs false
def RdB (w : World) (v : Value) (bs : List Int) : Prop :=
  ∃ a cap, v = .slice a bs.length cap ∧ bs.length ≤ 9223372036854775807 ∧ (∀ k, k < bs.length → ∃ b off, a = some ⟨b, off, none⟩ ∧ w.cell? ⟨b, off + k, none⟩ = some (.int .u8 (bs.getD k 0))) ∧ ∀ k, 0 ≤ bs.getD k 0 ∧ bs.getD k 0 ≤ 255
theorem RdB.below {a b : World} {v : Value} {bs : List Int} (h : RdB a v bs) (hb : Below a.heap.size a b) : RdB b v bs := by
  obtain ⟨ad, cap, hv, hl, hc, hr⟩ := h
  refine ⟨ad, cap, hv, hl, fun k hk => ?_, hr⟩
  obtain ⟨bl, off, ha, hcell⟩ := hc k hk
  exact ⟨bl, off, ha, by rw [hb.cell (p := ⟨bl, off + k, none⟩) (World.block_lt_of_cell? a _ hcell)]; exact hcell⟩
section
variable {H : Type} {enc : TypeId × Value → H} {W : World} {base : Nat} {v : Value} {d : DataW H} {p : List MemPlace}
theorem cells_u8 : Tryz.prog.cellsOf 5 = 1 := by kernel_rfl
theorem rdB_of {fuel : Nat} {c : Value} {x : DataW H × List MemPlace} (h : DataW.trod enc Tryz.prog W 0 (fun _ => true) true fuel 22 [c] = some x) : ∃ bs, RdB W c bs := by
  rcases open_ints Tryz.underlying22 Tryz.underlying5 cells_u8 h with ⟨hcs, _⟩ | ⟨a, len, cap, zs, hcs, _, hl, hm, hz, _, hcell, hwz⟩
  · simp only [List.cons.injEq, and_true] at hcs
    subst hcs
    exact ⟨[], none, 0, rfl, by simp, fun k hk => by simp at hk, fun k => by simp⟩
  · simp only [List.cons.injEq, and_true] at hcs
    subst hcs
    have hzl : zs.length = cap := by simpa using hz
    have hlen : (zs.take len).length = len := by rw [List.length_take]; omega
    refine ⟨zs.take len, some a, cap, by rw [hlen], by rw [hlen]; unfold maxLen at hm; omega, fun k hk => ?_, fun k => ?_⟩
    · rw [hlen] at hk
      obtain ⟨b, off, rfl, hc⟩ := ints_at hcell (by omega)
      refine ⟨b, off, rfl, ?_⟩
      have e : (zs.take len).getD k 0 = zs.getD k 0 := by simp [List.getD, hk]
      rw [e]
      exact hc k (by omega)
    · by_cases hk : k < (zs.take len).length
      · have e : (zs.take len).getD k 0 = (zs.take len)[k] := by rw [List.getD_eq_getElem?_getD, List.getElem?_eq_getElem hk]; rfl
        have hmem : (zs.take len)[k] ∈ zs := List.mem_of_mem_take (List.getElem_mem hk)
        have hw := hwz _ hmem
        rw [e]
        exact bounds_u8 hw
      · have e : (zs.take len).getD k 0 = 0 := by
          rw [List.getD_eq_getElem?_getD, List.getElem?_eq_none (by omega)]; rfl
        rw [e]; omega
def Arg_bytes (w : World) (v : Value) : Prop := ∃ bs, RdB w v bs
set_option maxRecDepth 100000 in
theorem open_bytes (hv : Value.okWide Tryz.prog W .any base 22 v) (h : DataW.Trod enc Tryz.prog W 0 (fun _ => true) true 22 v d p) : Arg_bytes W v := by
  obtain ⟨a0, len, cap, rfl⟩ := okWide_slice Tryz.underlying22 hv
  obtain ⟨fuel, hf⟩ := h
  exact rdB_of hf
end
end Go.Proofs.YtioemkdapoombaaGreatDoor
end
section
namespace Go.Proofs.YtioemkdapoombaaGreatDoor
open Go.ChangeShapes Go.WideShapes Go.ChangeAt Go.RowKit
set_option linter.unusedVariables false
theorem infoI : (Tryz.prog.info? 2).map (fun i => (i.zero, i.size, i.bytes)) = some (some (.int .i64 0), 1, 8) := by kernel_rfl
abbrev OwnI1 (B : Nat) (w : World) (v : Value) (xs : List Int) : Prop := OwnI 2 B w v xs
set_option maxHeartbeats 1000000 in
set_option maxRecDepth 100000 in
theorem c_impl_State_throws (h m : Int) (w : World) (hh : 0 ≤ h ∧ h ≤ 10) (hm : 0 ≤ m ∧ m < 1024) :
    Calls Tryz.prog 114 #[.agg #[.int .i64 h, .int .i64 m]] w fun e w' => ∃ v, e = .returned v ∧ OwnI1 w.heap.size w' v (throwsL h m) ∧ Below w.heap.size w w' := by
  go_enter Tryz.func114, Tryz.ntmps114
  go_wp2
  go_loopw [3, 4, 9] (fun v _ i wr => ∃ k : Nat, (k : Int) ≤ h + 1 ∧ i = .int .i64 k ∧ OwnI1 (w.heap.size + 1) wr v (throwsTo h m k) ∧ Below (w.heap.size + 1) (w.alloc (Obj.cells #[Value.int IntKind.i64 h, Value.int IntKind.i64 m] 25)) wr) (fun _ _ i _ => (h + 1 - intOf i).toNat)
  case atStart => exact ⟨0, by omega, rfl, OwnI.made rfl (by simp) (by simp), (Below.refl _ _).alloc (by simp) _⟩
  case round =>
    obtain ⟨k, hk, rfl, hown, hb0⟩ := hrel
    have hc0 : ∀ o, wr.cell? ⟨w.heap.size, o, none⟩ = (w.alloc (Obj.cells #[Value.int IntKind.i64 h, Value.int IntKind.i64 m] 25)).cell? ⟨w.heap.size, o, none⟩ := fun o => hb0.cell (p := ⟨w.heap.size, o, none⟩) (by simp)
    have hs0 : w.heap.size + 1 ≤ wr.heap.size := by simpa using hb0.size
    have htl := throwsTo_len h m k
    by_cases hlt : (k : Int) < h + 1
    · cases hcan : canB h m k
      · go_wp2_with (go_at_call 73; refine (c_impl_State_can _ _ _ _ (by omega) hm).mono ?_; rintro e w1 ⟨rfl, hb⟩; obtain ⟨hc, hf⟩ := bcell hb)
        go_roundw
        case rel => exact ⟨k + 1, by omega, by go_num, by rw [throwsTo_no hcan]; exact hown.below hb, hb0.trans (hb.mono hs0)⟩
        case measure => simp [intOf]; omega
      · go_wp2_with (first | (go_at_call 73; refine (c_impl_State_can _ _ _ _ (by omega) hm).mono ?_; rintro e w1 ⟨rfl, hb⟩; obtain ⟨hc, hf⟩ := bcell hb) | (at_builtin; refine push_int rfl _ _ _ _ rfl Tryz.underlying26 infoI (w.heap.size + 1) _ _ _ _ rfl rfl (OwnI.below hown hb) (by omega) (by have := hb.size; omega) ?_; intro v' w2 hown2 hb2 hs2))
        go_roundw
        case rel => exact ⟨k + 1, by omega, by go_num, by rw [throwsTo_yes hcan]; exact hown2, hb2 _ (hb0.trans (hb.mono hs0))⟩
        case measure => simp [intOf]; omega
    · have hk1 : (h + 1).toNat = k := by omega
      have H : Hid (throwsTo h m k = throwsL h m) := by unfold Hid throwsL; rw [hk1]
      clear hk1
      go_wp2
      go_ret
      exact ⟨_, rfl, by rw [← H.out]; exact hown.base (by omega), ((Below.refl _ _).al _).trans (hb0.mono (by simp))⟩
set_option maxHeartbeats 1000000 in
set_option maxRecDepth 100000 in
theorem c_spec_l08Throws (h m : Int) (w : World) (hh : 0 ≤ h ∧ h ≤ 10) (hm : 0 ≤ m ∧ m < 1024) :
    Calls Tryz.prog 35 #[.agg #[.int .i64 h, .int .i64 m]] w fun e w' => ∃ v, e = .returned v ∧ OwnI1 w.heap.size w' v (throwsL h m) ∧ Below w.heap.size w w' := by
  go_enter Tryz.func35, Tryz.ntmps35
  go_wp2
  go_loopw [3, 4] (fun v i wr => ∃ k : Nat, (k : Int) ≤ h + 1 ∧ i = .int .i64 k ∧ OwnI1 (w.heap.size + 1) wr v (throwsTo h m k) ∧ Below (w.heap.size + 1) (w.alloc (Obj.cells #[Value.int IntKind.i64 h, Value.int IntKind.i64 m] 25)) wr) (fun _ i _ => (h + 1 - intOf i).toNat)
  case atStart => exact ⟨0, by omega, rfl, OwnI.made rfl (by simp) (by simp), (Below.refl _ _).alloc (by simp) _⟩
  case round =>
    obtain ⟨k, hk, rfl, hown, hb0⟩ := hrel
    have hc0 : ∀ o, wr.cell? ⟨w.heap.size, o, none⟩ = (w.alloc (Obj.cells #[Value.int IntKind.i64 h, Value.int IntKind.i64 m] 25)).cell? ⟨w.heap.size, o, none⟩ := fun o => hb0.cell (p := ⟨w.heap.size, o, none⟩) (by simp)
    have hs0 : w.heap.size + 1 ≤ wr.heap.size := by simpa using hb0.size
    have htl := throwsTo_len h m k
    by_cases hlt : (k : Int) < h + 1
    · cases hcan : canB h m k
      · go_wp2_with (go_at_call 36; refine (c_spec_l08Can _ _ _ _ (by omega) hm).mono ?_; rintro e w1 ⟨rfl, hb⟩; obtain ⟨hc, hf⟩ := bcell hb)
        go_roundw
        case rel => exact ⟨k + 1, by omega, by go_num, by rw [throwsTo_no hcan]; exact hown.below hb, hb0.trans (hb.mono hs0)⟩
        case measure => simp [intOf]; omega
      · go_wp2_with (first | (go_at_call 36; refine (c_spec_l08Can _ _ _ _ (by omega) hm).mono ?_; rintro e w1 ⟨rfl, hb⟩; obtain ⟨hc, hf⟩ := bcell hb) | (at_builtin; refine push_int rfl _ _ _ _ rfl Tryz.underlying26 infoI (w.heap.size + 1) _ _ _ _ rfl rfl (OwnI.below hown hb) (by omega) (by have := hb.size; omega) ?_; intro v' w2 hown2 hb2 hs2))
        go_roundw
        case rel => exact ⟨k + 1, by omega, by go_num, by rw [throwsTo_yes hcan]; exact hown2, hb2 _ (hb0.trans (hb.mono hs0))⟩
        case measure => simp [intOf]; omega
    · have hk1 : (h + 1).toNat = k := by omega
      have H : Hid (throwsTo h m k = throwsL h m) := by unfold Hid throwsL; rw [hk1]
      clear hk1
      go_wp2
      go_ret
      exact ⟨_, rfl, by rw [← H.out]; exact hown.base (by omega), ((Below.refl _ _).al _).trans (hb0.mono (by simp))⟩
end Go.Proofs.YtioemkdapoombaaGreatDoor
end
