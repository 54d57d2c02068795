/- What spec's PropsIn, StateCount, StateIndex and CanThrow return at a valid state. -/
import Derived.Test.YtggffkklfdpmkaaPlainGr
import Derived.Test.YtggffkklfdpmkaaDiam
import Derived.Test.YtggffkklfdpmkaaGraphX
namespace Go.Proofs.Ytggffkklfdpmkaa
open Go.ChangeShapes Go.WideShapes Go.ChangeAt Go.RowKit
set_option linter.unusedVariables false
set_option maxRecDepth 100000 in
theorem c_spec_PropsIn (h m : Int) (w : World) (hv : validB h m = true) :
    Calls Try.prog 44 #[.agg #[.int .i64 h, .int .i64 m]] w fun e w' => e = .returned (.tuple #[.int .i64 (popI m), .int .i64 0]) ∧ Below w.heap.size w w' := by
  have hmq := (valid_bd hv).2
  obtain ⟨W0, hW0, k0, k1, B0⟩ := oneState w 36 h m
  go_enter Try.func44, Try.ntmps44
  go_wp2_with fail
  rw [← hW0]
  clear hW0
  refine (c_spec_l08Ok h m _).mono ?_; rintro e w1 ⟨rfl, hb1⟩; rw [hv]
  have k0 := keepc hb1 k0
  have k1 := keepc hb1 k1
  go_wp2_with fail
  refine (c_spec_l08Count m _ hmq).mono ?_; rintro e w2 ⟨rfl, rfl⟩
  go_wp2
  go_ret2
  exact ⟨rfl, B0.tr hb1⟩
theorem c_spec_StateCount (n h : Int) (w : World) (hc : graphC n h = 0) :
    Calls Try.prog 45 #[.int .i64 n, .int .i64 h] w fun e w' => e = .returned (.tuple #[.int .i64 ((maskL n h).length : Int), .int .i64 0]) ∧ Below w.heap.size w w' := by
  have hk := graphC_ok hc
  have hml := maskL_len n h hk.1
  go_enter Try.func45, Try.ntmps45
  go_wp2_with fail
  refine (c_spec_l09Code n h _).mono ?_; rintro e w1 ⟨rfl, rfl⟩; rw [hc]
  go_wp2_with fail
  refine (c_spec_l09Masks n h _ (by omega)).mono ?_; rintro e w2 ⟨v2, rfl, ho2, hb2⟩
  obtain ⟨m2, cap2, rfl, hl2, -⟩ := ho2.rd
  go_wp2
  go_ret2
  exact ⟨rfl, hb2⟩
set_option maxRecDepth 100000 in
theorem c_spec_StateIndex (h m : Int) (w : World) (hv : validB h m = true) :
    Calls Try.prog 46 #[.agg #[.int .i64 h, .int .i64 m]] w fun e w' => e = .returned (.tuple #[.int .i64 (stateIdx h m), .int .i64 0]) ∧ Below w.heap.size w w' := by
  have hmq := (valid_bd hv).2
  have hhq := (valid_bd hv).1
  have hhb : 0 ≤ h ∧ h ≤ 10 := by omega
  have HMEM := Lib.hid (mem_own hv)
  have hsoM := Lib.hid (maskL_sorted (popI m) h)
  have hml := maskL_len (popI m) h hhq
  have HI : Hid (stateIdx h m = ((idx (maskL (popI m) h) m : Nat) : Int)) := by unfold stateIdx; rw [hv]; rfl
  obtain ⟨W0, hW0, k0, k1, B0⟩ := oneState w 36 h m
  go_enter Try.func46, Try.ntmps46
  go_wp2_with fail
  rw [← hW0]
  clear hW0
  refine (c_spec_l08Ok h m _).mono ?_; rintro e w1 ⟨rfl, hb1⟩; rw [hv]
  have k0 := keepc hb1 k0
  have k1 := keepc hb1 k1
  go_wp2_with fail
  go_region_held3 (fun w' => w'.cell? ⟨w.heap.size, 0, none⟩ = some (.int .i64 h) ∧ w'.cell? ⟨w.heap.size, 1, none⟩ = some (.int .i64 m))
    (go_keep)
    (first
      | ((go_at_call 72; refine (c_spec_l08Count m _ hmq).mono ?_; rintro e w2 ⟨rfl, rfl⟩))
      | ((go_at_call 58; refine (c_spec_l09Masks (popI m) h _ hhb).mono ?_; rintro e w3 ⟨v3, rfl, ho3, hb3⟩; have hb3' := below_drew hb3; have p0 := keepc hb3' k0; have p1 := keepc hb3' k1; have hr3 := ho3.rd))
      | ((go_at_call 71; refine (c_spec_l09Find (maskL (popI m) h) m _ _ hr3 hsoM.out HMEM.out (by omega)).mono ?_; rintro e w5 ⟨rfl, rfl⟩)))
  rw [← HI.out]
  go_wp2
  go_ret2
  exact ⟨rfl, (B0.tr hb1).tr hb3'⟩
theorem c_spec_CanThrow (h m t : Int) (w : World) (hv : validB h m = true) (hh : h ≤ 10) (hm : 0 ≤ m ∧ m < 1024) :
    Calls Try.prog 49 #[.agg #[.int .i64 h, .int .i64 m], .int .i64 t] w fun e w' => e = .returned (.bool (canB h m t)) ∧ Below w.heap.size w w' := by
  obtain ⟨W0, hW0, k0, k1, B0⟩ := oneState w 36 h m
  go_enter Try.func49, Try.ntmps49
  go_wp2_with fail
  rw [← hW0]
  clear hW0
  refine (c_spec_l08Ok h m _).mono ?_; rintro e w1 ⟨rfl, hb1⟩; rw [hv]
  have k0 := keepc hb1 k0
  have k1 := keepc hb1 k1
  go_wp2_with fail
  refine (c_spec_l08Can h m t _ hh hm).mono ?_; rintro e w2 ⟨rfl, hb2⟩
  go_wp2
  go_ret
  exact ⟨rfl, (B0.tr hb1).tr hb2⟩
end Go.Proofs.Ytggffkklfdpmkaa
