/- Contracts of the functions on states that make lists. -/
import Derived.Test.YtgcmnpimkfmccaaBase
namespace Go.Proofs.Ytgcmnpimkfmccaa
open Go.ChangeShapes Go.WideShapes Go.ChangeAt Go.RowKit
set_option linter.unusedVariables false
theorem infoI : (Try.prog.info? 2).map (fun i => (i.zero, i.size, i.bytes)) = some (some (.int .i64 0), 1, 8) := by kernel_rfl
abbrev OwnI1 (B : Nat) (w : World) (v : Value) (xs : List Int) : Prop := OwnI 2 B w v xs
set_option maxHeartbeats 1000000 in
set_option maxRecDepth 100000 in
theorem c_impl_State_throws (h m : Int) (w : World) (hh : 0 ≤ h ∧ h ≤ 10) (hm : 0 ≤ m ∧ m < 1024) :
    Calls Try.prog 71 #[.agg #[.int .i64 h, .int .i64 m]] w fun e w' => ∃ v, e = .returned v ∧ OwnI1 w.heap.size w' v (throwsL h m) ∧ Below w.heap.size w w' := by
  go_enter Try.func71, Try.ntmps71
  go_wp2
  go_loopw [3, 4, 9] (fun v _ i wr => ∃ k : Nat, (k : Int) ≤ h + 1 ∧ i = .int .i64 k ∧ OwnI1 (w.heap.size + 1) wr v (throwsTo h m k) ∧ Below (w.heap.size + 1) (w.alloc (Obj.cells #[Value.int IntKind.i64 h, Value.int IntKind.i64 m] 63)) wr) (fun _ _ i _ => (h + 1 - intOf i).toNat)
  case atStart => exact ⟨0, by omega, rfl, OwnI.made rfl (by simp) (by simp), (Below.refl _ _).alloc (by simp) _⟩
  case round =>
    obtain ⟨k, hk, rfl, hown, hb0⟩ := hrel
    have hc0 : ∀ o, wr.cell? ⟨w.heap.size, o, none⟩ = (w.alloc (Obj.cells #[Value.int IntKind.i64 h, Value.int IntKind.i64 m] 63)).cell? ⟨w.heap.size, o, none⟩ := fun o => hb0.cell (p := ⟨w.heap.size, o, none⟩) (by simp)
    have hs0 : w.heap.size + 1 ≤ wr.heap.size := by simpa using hb0.size
    have htl := throwsTo_len h m k
    by_cases hlt : (k : Int) < h + 1
    · cases hcan : canB h m k
      · go_wp2_with (go_at_call 103; refine (c_impl_State_can _ _ _ _ (by omega) hm).mono ?_; rintro e w1 ⟨rfl, hb⟩; obtain ⟨hc, hf⟩ := bcell hb)
        go_roundw
        case rel => exact ⟨k + 1, by omega, by go_num, by rw [throwsTo_no hcan]; exact hown.below hb, hb0.trans (hb.mono hs0)⟩
        case measure => simp [intOf]; omega
      · go_wp2_with (first | (go_at_call 103; refine (c_impl_State_can _ _ _ _ (by omega) hm).mono ?_; rintro e w1 ⟨rfl, hb⟩; obtain ⟨hc, hf⟩ := bcell hb) | (at_builtin; refine push_int rfl _ _ _ _ rfl Try.underlying28 infoI (w.heap.size + 1) _ _ _ _ rfl rfl (OwnI.below hown hb) (by omega) (by have := hb.size; omega) ?_; intro v' w2 hown2 hb2 hs2))
        go_roundw
        case rel => exact ⟨k + 1, by omega, by go_num, by rw [throwsTo_yes hcan]; exact hown2, hb2 _ (hb0.trans (hb.mono hs0))⟩
        case measure => simp [intOf]; omega
    · have hk1 : (h + 1).toNat = k := by omega
      have H : Hid (throwsTo h m k = throwsL h m) := by unfold Hid throwsL; rw [hk1]
      clear hk1
      go_wp2
      go_ret
      exact ⟨_, rfl, by rw [← H.out]; exact hown.base (by omega), ((Below.refl _ _).al _).trans (hb0.mono (by simp))⟩
set_option maxHeartbeats 1000000 in
set_option maxRecDepth 100000 in
theorem c_spec_l08Throws (h m : Int) (w : World) (hh : 0 ≤ h ∧ h ≤ 10) (hm : 0 ≤ m ∧ m < 1024) :
    Calls Try.prog 109 #[.agg #[.int .i64 h, .int .i64 m]] w fun e w' => ∃ v, e = .returned v ∧ OwnI1 w.heap.size w' v (throwsL h m) ∧ Below w.heap.size w w' := by
  go_enter Try.func109, Try.ntmps109
  go_wp2
  go_loopw [3, 4] (fun v i wr => ∃ k : Nat, (k : Int) ≤ h + 1 ∧ i = .int .i64 k ∧ OwnI1 (w.heap.size + 1) wr v (throwsTo h m k) ∧ Below (w.heap.size + 1) (w.alloc (Obj.cells #[Value.int IntKind.i64 h, Value.int IntKind.i64 m] 63)) wr) (fun _ i _ => (h + 1 - intOf i).toNat)
  case atStart => exact ⟨0, by omega, rfl, OwnI.made rfl (by simp) (by simp), (Below.refl _ _).alloc (by simp) _⟩
  case round =>
    obtain ⟨k, hk, rfl, hown, hb0⟩ := hrel
    have hc0 : ∀ o, wr.cell? ⟨w.heap.size, o, none⟩ = (w.alloc (Obj.cells #[Value.int IntKind.i64 h, Value.int IntKind.i64 m] 63)).cell? ⟨w.heap.size, o, none⟩ := fun o => hb0.cell (p := ⟨w.heap.size, o, none⟩) (by simp)
    have hs0 : w.heap.size + 1 ≤ wr.heap.size := by simpa using hb0.size
    have htl := throwsTo_len h m k
    by_cases hlt : (k : Int) < h + 1
    · cases hcan : canB h m k
      · go_wp2_with (go_at_call 134; refine (c_spec_l08Can _ _ _ _ (by omega) hm).mono ?_; rintro e w1 ⟨rfl, hb⟩; obtain ⟨hc, hf⟩ := bcell hb)
        go_roundw
        case rel => exact ⟨k + 1, by omega, by go_num, by rw [throwsTo_no hcan]; exact hown.below hb, hb0.trans (hb.mono hs0)⟩
        case measure => simp [intOf]; omega
      · go_wp2_with (first | (go_at_call 134; refine (c_spec_l08Can _ _ _ _ (by omega) hm).mono ?_; rintro e w1 ⟨rfl, hb⟩; obtain ⟨hc, hf⟩ := bcell hb) | (at_builtin; refine push_int rfl _ _ _ _ rfl Try.underlying28 infoI (w.heap.size + 1) _ _ _ _ rfl rfl (OwnI.below hown hb) (by omega) (by have := hb.size; omega) ?_; intro v' w2 hown2 hb2 hs2))
        go_roundw
        case rel => exact ⟨k + 1, by omega, by go_num, by rw [throwsTo_yes hcan]; exact hown2, hb2 _ (hb0.trans (hb.mono hs0))⟩
        case measure => simp [intOf]; omega
    · have hk1 : (h + 1).toNat = k := by omega
      have H : Hid (throwsTo h m k = throwsL h m) := by unfold Hid throwsL; rw [hk1]
      clear hk1
      go_wp2
      go_ret
      exact ⟨_, rfl, by rw [← H.out]; exact hown.base (by omega), ((Below.refl _ _).al _).trans (hb0.mono (by simp))⟩
end Go.Proofs.Ytgcmnpimkfmccaa
