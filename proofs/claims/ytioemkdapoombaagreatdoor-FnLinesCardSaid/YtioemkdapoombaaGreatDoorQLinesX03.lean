/- The law LinesX: what it rests on, part 3 of 46. -/
import Derived.Test.YtioemkdapoombaaGreatDoorRows
import Derived.ProofKit
import Derived.OpenShut
import Derived.Outline
import Derived.Deep.QuietTactic
import Derived.BigQuiet
import Derived.Test.YtioemkdapoombaaGreatDoorQLinesX01
import Derived.Test.YtioemkdapoombaaGreatDoorQLinesX02
import Derived.ChangeOld
import Derived.Lib.SmallJoins
import Derived.Laws.ResultCell
import Derived.Deep.Slices
section
namespace Go.Proofs.YtioemkdapoombaaGreatDoor
open Go.ChangeShapes Go.WideShapes Go.ChangeAt Go.RowKit
set_option linter.unusedVariables false
theorem c_impl_between (n lo hi : Int) (w : World) :
    Calls Tryz.prog 65 #[.int .i64 n, .int .i64 lo, .int .i64 hi] w fun e w' => e = .returned (.bool (inB n lo hi)) ∧ w = w' := by
  by_cases h1 : lo ≤ n
  · go_enter Tryz.func65, Tryz.ntmps65
    go_wp2
    go_ret
    exact ⟨by simp [inB, h1], rfl⟩
  · go_enter Tryz.func65, Tryz.ntmps65
    go_wp2
    go_ret
    exact ⟨by simp [inB]; omega, rfl⟩
theorem c_spec_l00In (n lo hi : Int) (w : World) :
    Calls Tryz.prog 66 #[.int .i64 n, .int .i64 lo, .int .i64 hi] w fun e w' => e = .returned (.bool (inB n lo hi)) ∧ w = w' := by
  by_cases h1 : lo ≤ n
  · go_enter Tryz.func66, Tryz.ntmps66
    go_wp2
    go_ret
    exact ⟨by simp [inB, h1], rfl⟩
  · go_enter Tryz.func66, Tryz.ntmps66
    go_wp2
    go_ret
    exact ⟨by simp [inB]; omega, rfl⟩
theorem c_impl_isHeight (n : Int) (w : World) :
    Calls Tryz.prog 81 #[.int .i64 n] w fun e w' => e = .returned (.bool (inB n 1 10)) ∧ w = w' := by
  go_enter Tryz.func81, Tryz.ntmps81
  go_wp2_with (go_at_call 65; refine (c_impl_between _ _ _ _).mono ?_; rintro e w1 ⟨rfl, rfl⟩)
  go_ret
  exact ⟨rfl, rfl⟩
theorem c_spec_l08Height (n : Int) (w : World) :
    Calls Tryz.prog 69 #[.int .i64 n] w fun e w' => e = .returned (.bool (inB n 1 10)) ∧ w = w' := by
  go_enter Tryz.func69, Tryz.ntmps69
  go_wp2_with (go_at_call 66; refine (c_spec_l00In _ _ _ _).mono ?_; rintro e w1 ⟨rfl, rfl⟩)
  go_ret
  exact ⟨rfl, rfl⟩
theorem c_impl_ValidState (h m : Int) (w : World) :
    Calls Tryz.prog 72 #[.agg #[.int .i64 h, .int .i64 m]] w fun e w' => e = .returned (.bool (validB h m)) ∧ Below w.heap.size w w' := by
  cases h1 : inB h 1 10
  · go_enter Tryz.func72, Tryz.ntmps72
    go_wp2_with (go_at_call 81; refine (c_impl_isHeight _ _).mono ?_; rintro e w1 ⟨rfl, rfl⟩)
    go_ret
    exact ⟨by simp [validB, h1], by (repeat (first | (with_reducible assumption) | (with_reducible exact Below.refl _ _) | (with_reducible refine Below.setCell ?_ (by first | (simp; done) | (simp; omega)) _) | (with_reducible refine Below.al ?_ _) | (with_reducible refine Below.dr ?_) | (with_reducible refine Below.drN ?_ _) | (with_reducible refine Below.tr ?_ (by with_reducible assumption))))⟩
  · have hh := inB_iff.1 h1
    have h2 := pow_le_1024 h.toNat (by omega)
    have h3 := pow_pos_int h.toNat
    go_enter Tryz.func72, Tryz.ntmps72
    go_wp2_with (first | (go_at_call 81; refine (c_impl_isHeight _ _).mono ?_; rintro e w1 ⟨rfl, rfl⟩) | (go_at_call 65; refine (c_impl_between _ _ _ _).mono ?_; rintro e w1 ⟨rfl, rfl⟩))
    go_ret
    exact ⟨by simp [validB, h1], by (repeat (first | (with_reducible assumption) | (with_reducible exact Below.refl _ _) | (with_reducible refine Below.setCell ?_ (by first | (simp; done) | (simp; omega)) _) | (with_reducible refine Below.al ?_ _) | (with_reducible refine Below.dr ?_) | (with_reducible refine Below.drN ?_ _) | (with_reducible refine Below.tr ?_ (by with_reducible assumption))))⟩
theorem c_spec_l08Ok (h m : Int) (w : World) :
    Calls Tryz.prog 32 #[.agg #[.int .i64 h, .int .i64 m]] w fun e w' => e = .returned (.bool (validB h m)) ∧ Below w.heap.size w w' := by
  cases h1 : inB h 1 10
  · go_enter Tryz.func32, Tryz.ntmps32
    go_wp2_with (go_at_call 69; refine (c_spec_l08Height _ _).mono ?_; rintro e w1 ⟨rfl, rfl⟩)
    go_ret
    exact ⟨by simp [validB, h1], by (repeat (first | (with_reducible assumption) | (with_reducible exact Below.refl _ _) | (with_reducible refine Below.setCell ?_ (by first | (simp; done) | (simp; omega)) _) | (with_reducible refine Below.al ?_ _) | (with_reducible refine Below.dr ?_) | (with_reducible refine Below.drN ?_ _) | (with_reducible refine Below.tr ?_ (by with_reducible assumption))))⟩
  · have hh := inB_iff.1 h1
    have h2 := pow_le_1024 h.toNat (by omega)
    have h3 := pow_pos_int h.toNat
    go_enter Tryz.func32, Tryz.ntmps32
    go_wp2_with (first | (go_at_call 69; refine (c_spec_l08Height _ _).mono ?_; rintro e w1 ⟨rfl, rfl⟩) | (go_at_call 66; refine (c_spec_l00In _ _ _ _).mono ?_; rintro e w1 ⟨rfl, rfl⟩))
    go_ret
    exact ⟨by simp [validB, h1], by (repeat (first | (with_reducible assumption) | (with_reducible exact Below.refl _ _) | (with_reducible refine Below.setCell ?_ (by first | (simp; done) | (simp; omega)) _) | (with_reducible refine Below.al ?_ _) | (with_reducible refine Below.dr ?_) | (with_reducible refine Below.drN ?_ _) | (with_reducible refine Below.tr ?_ (by with_reducible assumption))))⟩
theorem c_impl_State_lands (h m t : Int) (w : World) (hm : 0 ≤ m ∧ m < 1024) (ht : 0 ≤ t ∧ t ≤ 10) :
    Calls Tryz.prog 107 #[.agg #[.int .i64 h, .int .i64 m], .int .i64 t] w fun e w' => e = .returned (.bool (bitB m t)) ∧ Below w.heap.size w w' := by
  go_enter Tryz.func107, Tryz.ntmps107
  go_wp2
  go_ret
  exact ⟨by rw [bit_eq m _ hm]; rfl, by (repeat (first | (with_reducible assumption) | (with_reducible exact Below.refl _ _) | (with_reducible refine Below.setCell ?_ (by first | (simp; done) | (simp; omega)) _) | (with_reducible refine Below.al ?_ _) | (with_reducible refine Below.dr ?_) | (with_reducible refine Below.drN ?_ _) | (with_reducible refine Below.tr ?_ (by with_reducible assumption))))⟩
theorem c_impl_State_can (h m t : Int) (w : World) (hh : h ≤ 10) (hm : 0 ≤ m ∧ m < 1024) :
    Calls Tryz.prog 73 #[.agg #[.int .i64 h, .int .i64 m], .int .i64 t] w fun e w' => e = .returned (.bool (canB h m t)) ∧ Below w.heap.size w w' := by
  by_cases h0 : t = 0
  · subst h0
    go_enter Tryz.func73, Tryz.ntmps73
    go_wp2_with (go_at_call 107; refine (c_impl_State_lands _ _ _ _ hm (by omega)).mono ?_; rintro e w1 ⟨rfl, hb⟩; obtain ⟨hc, hf⟩ := bcell hb)
    go_ret
    exact ⟨rfl, by (repeat (first | (with_reducible assumption) | (with_reducible exact Below.refl _ _) | (with_reducible refine Below.setCell ?_ (by first | (simp; done) | (simp; omega)) _) | (with_reducible refine Below.al ?_ _) | (with_reducible refine Below.dr ?_) | (with_reducible refine Below.drN ?_ _) | (with_reducible refine Below.tr ?_ (by with_reducible assumption))))⟩
  · have H0 : (t == 0) = false := by simp [h0]
    cases h1 : inB t 1 h
    · go_enter Tryz.func73, Tryz.ntmps73
      go_wp2_with (go_at_call 65; refine (c_impl_between _ _ _ _).mono ?_; rintro e w1 ⟨rfl, rfl⟩)
      go_ret
      exact ⟨by simp [canB, H0, h1], by (repeat (first | (with_reducible assumption) | (with_reducible exact Below.refl _ _) | (with_reducible refine Below.setCell ?_ (by first | (simp; done) | (simp; omega)) _) | (with_reducible refine Below.al ?_ _) | (with_reducible refine Below.dr ?_) | (with_reducible refine Below.drN ?_ _) | (with_reducible refine Below.tr ?_ (by with_reducible assumption))))⟩
    · have ht : 1 ≤ t ∧ t ≤ h := inB_iff.1 h1
      cases h2 : bitB m 0
      all_goals
        go_enter Tryz.func73, Tryz.ntmps73
        go_wp2_with (first | (go_at_call 65; refine (c_impl_between _ _ _ _).mono ?_; rintro e w1 ⟨rfl, rfl⟩) | (go_at_call 107; refine (c_impl_State_lands _ _ _ _ hm (by omega)).mono ?_; rintro e w1 ⟨rfl, hb⟩; obtain ⟨hc, hf⟩ := bcell hb))
        go_ret
        exact ⟨by simp [canB, H0, h1, h2], by (repeat (first | (with_reducible assumption) | (with_reducible exact Below.refl _ _) | (with_reducible refine Below.setCell ?_ (by first | (simp; done) | (simp; omega)) _) | (with_reducible refine Below.al ?_ _) | (with_reducible refine Below.dr ?_) | (with_reducible refine Below.drN ?_ _) | (with_reducible refine Below.tr ?_ (by with_reducible assumption))))⟩
theorem c_spec_l08Bit (m t : Int) (w : World) (hm : 0 ≤ m ∧ m < 1024) (ht : 0 ≤ t ∧ t ≤ 10) :
    Calls Tryz.prog 71 #[.int .i64 m, .int .i64 t] w fun e w' => e = .returned (.bool (bitB m t)) ∧ w = w' := by
  go_enter Tryz.func71, Tryz.ntmps71
  go_wp2
  go_ret
  exact ⟨by rw [bit_eq m _ hm]; rfl, rfl⟩
theorem c_spec_l08Can (h m t : Int) (w : World) (hh : h ≤ 10) (hm : 0 ≤ m ∧ m < 1024) :
    Calls Tryz.prog 36 #[.agg #[.int .i64 h, .int .i64 m], .int .i64 t] w fun e w' => e = .returned (.bool (canB h m t)) ∧ Below w.heap.size w w' := by
  by_cases h0 : t = 0
  · subst h0
    go_enter Tryz.func36, Tryz.ntmps36
    go_wp2_with (go_at_call 71; refine (c_spec_l08Bit _ _ _ hm (by omega)).mono ?_; rintro e w1 ⟨rfl, rfl⟩)
    go_ret
    exact ⟨rfl, by (repeat (first | (with_reducible assumption) | (with_reducible exact Below.refl _ _) | (with_reducible refine Below.setCell ?_ (by first | (simp; done) | (simp; omega)) _) | (with_reducible refine Below.al ?_ _) | (with_reducible refine Below.dr ?_) | (with_reducible refine Below.drN ?_ _) | (with_reducible refine Below.tr ?_ (by with_reducible assumption))))⟩
  · have H0 : (t == 0) = false := by simp [h0]
    cases h2 : bitB m 0
    · go_enter Tryz.func36, Tryz.ntmps36
      go_wp2_with (go_at_call 71; refine (c_spec_l08Bit _ _ _ hm (by omega)).mono ?_; rintro e w1 ⟨rfl, rfl⟩)
      go_ret
      exact ⟨by simp [canB, H0, h2], by (repeat (first | (with_reducible assumption) | (with_reducible exact Below.refl _ _) | (with_reducible refine Below.setCell ?_ (by first | (simp; done) | (simp; omega)) _) | (with_reducible refine Below.al ?_ _) | (with_reducible refine Below.dr ?_) | (with_reducible refine Below.drN ?_ _) | (with_reducible refine Below.tr ?_ (by with_reducible assumption))))⟩
    · cases h1 : inB t 1 h
      · go_enter Tryz.func36, Tryz.ntmps36
        go_wp2_with (first | (go_at_call 66; refine (c_spec_l00In _ _ _ _).mono ?_; rintro e w1 ⟨rfl, rfl⟩) | (go_at_call 71; refine (c_spec_l08Bit _ _ _ hm (by omega)).mono ?_; rintro e w1 ⟨rfl, rfl⟩))
        go_ret
        exact ⟨by simp [canB, H0, h1], by (repeat (first | (with_reducible assumption) | (with_reducible exact Below.refl _ _) | (with_reducible refine Below.setCell ?_ (by first | (simp; done) | (simp; omega)) _) | (with_reducible refine Below.al ?_ _) | (with_reducible refine Below.dr ?_) | (with_reducible refine Below.drN ?_ _) | (with_reducible refine Below.tr ?_ (by with_reducible assumption))))⟩
      · have ht : 1 ≤ t ∧ t ≤ h := inB_iff.1 h1
        go_enter Tryz.func36, Tryz.ntmps36
        go_wp2_with (first | (go_at_call 66; refine (c_spec_l00In _ _ _ _).mono ?_; rintro e w1 ⟨rfl, rfl⟩) | (go_at_call 71; refine (c_spec_l08Bit _ _ _ hm (by omega)).mono ?_; rintro e w1 ⟨rfl, rfl⟩))
        go_ret
        exact ⟨by simp [canB, H0, h1, h2], by (repeat (first | (with_reducible assumption) | (with_reducible exact Below.refl _ _) | (with_reducible refine Below.setCell ?_ (by first | (simp; done) | (simp; omega)) _) | (with_reducible refine Below.al ?_ _) | (with_reducible refine Below.dr ?_) | (with_reducible refine Below.drN ?_ _) | (with_reducible refine Below.tr ?_ (by with_reducible assumption))))⟩
end Go.Proofs.YtioemkdapoombaaGreatDoor
end
section
namespace Go.Proofs.YtioemkdapoombaaGreatDoor
open Go.ChangeShapes Go.WideShapes Go.ChangeAt Go.RowKit
set_option linter.unusedVariables false
set_option linter.unusedSimpArgs false
def RdB (w : World) (v : Value) (bs : List Int) : Prop :=
  ∃ a cap, v = .slice a bs.length cap ∧ bs.length ≤ 9223372036854775807 ∧ (∀ k, k < bs.length → ∃ b off, a = some ⟨b, off, none⟩ ∧ w.cell? ⟨b, off + k, none⟩ = some (.int .u8 (bs.getD k 0))) ∧ ∀ k, 0 ≤ bs.getD k 0 ∧ bs.getD k 0 ≤ 255
theorem RdB.below {a b : World} {v : Value} {bs : List Int} (h : RdB a v bs) (hb : Below a.heap.size a b) : RdB b v bs := by
  obtain ⟨ad, cap, hv, hl, hc, hr⟩ := h
  refine ⟨ad, cap, hv, hl, fun k hk => ?_, hr⟩
  obtain ⟨bl, off, ha, hcell⟩ := hc k hk
  exact ⟨bl, off, ha, by rw [hb.cell (p := ⟨bl, off + k, none⟩) (World.block_lt_of_cell? a _ hcell)]; exact hcell⟩
section
variable {H : Type} {enc : TypeId × Value → H} {W : World} {base : Nat} {v : Value} {d : DataW H} {p : List MemPlace}
theorem cells_u8 : Tryz.prog.cellsOf 5 = 1 := by kernel_rfl
theorem rdB_of {fuel : Nat} {c : Value} {x : DataW H × List MemPlace} (h : DataW.trod enc Tryz.prog W 0 (fun _ => true) true fuel 22 [c] = some x) : ∃ bs, RdB W c bs := by
  rcases open_ints Tryz.underlying22 Tryz.underlying5 cells_u8 h with ⟨hcs, _⟩ | ⟨a, len, cap, zs, hcs, _, hl, hm, hz, _, hcell, hwz⟩
  · simp only [List.cons.injEq, and_true] at hcs
    subst hcs
    exact ⟨[], none, 0, rfl, by simp, fun k hk => by simp at hk, fun k => by simp⟩
  · simp only [List.cons.injEq, and_true] at hcs
    subst hcs
    have hzl : zs.length = cap := by simpa using hz
    have hlen : (zs.take len).length = len := by rw [List.length_take]; omega
    refine ⟨zs.take len, some a, cap, by rw [hlen], by rw [hlen]; unfold maxLen at hm; omega, fun k hk => ?_, fun k => ?_⟩
    · rw [hlen] at hk
      obtain ⟨b, off, rfl, hc⟩ := ints_at hcell (by omega)
      refine ⟨b, off, rfl, ?_⟩
      have e : (zs.take len).getD k 0 = zs.getD k 0 := by simp [List.getD, hk]
      rw [e]
      exact hc k (by omega)
    · by_cases hk : k < (zs.take len).length
      · have e : (zs.take len).getD k 0 = (zs.take len)[k] := by rw [List.getD_eq_getElem?_getD, List.getElem?_eq_getElem hk]; rfl
        have hmem : (zs.take len)[k] ∈ zs := List.mem_of_mem_take (List.getElem_mem hk)
        have hw := hwz _ hmem
        rw [e]
        exact bounds_u8 hw
      · have e : (zs.take len).getD k 0 = 0 := by
          rw [List.getD_eq_getElem?_getD, List.getElem?_eq_none (by omega)]; rfl
        rw [e]; omega
def Arg_bytes (w : World) (v : Value) : Prop := ∃ bs, RdB w v bs
set_option maxRecDepth 100000 in
theorem open_bytes (hv : Value.okWide Tryz.prog W .any base 22 v) (h : DataW.Trod enc Tryz.prog W 0 (fun _ => true) true 22 v d p) : Arg_bytes W v := by
  obtain ⟨a0, len, cap, rfl⟩ := okWide_slice Tryz.underlying22 hv
  obtain ⟨fuel, hf⟩ := h
  exact rdB_of hf
end
end Go.Proofs.YtioemkdapoombaaGreatDoor
end
section
namespace Go.Proofs.YtioemkdapoombaaGreatDoor
open Go.ChangeShapes Go.WideShapes Go.ChangeAt Go.RowKit
set_option linter.unusedVariables false
theorem infoI : (Tryz.prog.info? 2).map (fun i => (i.zero, i.size, i.bytes)) = some (some (.int .i64 0), 1, 8) := by kernel_rfl
abbrev OwnI1 (B : Nat) (w : World) (v : Value) (xs : List Int) : Prop := OwnI 2 B w v xs
set_option maxHeartbeats 1000000 in
set_option maxRecDepth 100000 in
theorem c_spec_l08Throws (h m : Int) (w : World) (hh : 0 ≤ h ∧ h ≤ 10) (hm : 0 ≤ m ∧ m < 1024) :
    Calls Tryz.prog 35 #[.agg #[.int .i64 h, .int .i64 m]] w fun e w' => ∃ v, e = .returned v ∧ OwnI1 w.heap.size w' v (throwsL h m) ∧ Below w.heap.size w w' := by
  go_enter Tryz.func35, Tryz.ntmps35
  go_wp2
  go_loopw [3, 4] (fun v i wr => ∃ k : Nat, (k : Int) ≤ h + 1 ∧ i = .int .i64 k ∧ OwnI1 (w.heap.size + 1) wr v (throwsTo h m k) ∧ Below (w.heap.size + 1) (w.alloc (Obj.cells #[Value.int IntKind.i64 h, Value.int IntKind.i64 m] 25)) wr) (fun _ i _ => (h + 1 - intOf i).toNat)
  case atStart => exact ⟨0, by omega, rfl, OwnI.made rfl (by simp) (by simp), (Below.refl _ _).alloc (by simp) _⟩
  case round =>
    obtain ⟨k, hk, rfl, hown, hb0⟩ := hrel
    have hc0 : ∀ o, wr.cell? ⟨w.heap.size, o, none⟩ = (w.alloc (Obj.cells #[Value.int IntKind.i64 h, Value.int IntKind.i64 m] 25)).cell? ⟨w.heap.size, o, none⟩ := fun o => hb0.cell (p := ⟨w.heap.size, o, none⟩) (by simp)
    have hs0 : w.heap.size + 1 ≤ wr.heap.size := by simpa using hb0.size
    have htl := throwsTo_len h m k
    by_cases hlt : (k : Int) < h + 1
    · cases hcan : canB h m k
      · go_wp2_with (go_at_call 36; refine (c_spec_l08Can _ _ _ _ (by omega) hm).mono ?_; rintro e w1 ⟨rfl, hb⟩; obtain ⟨hc, hf⟩ := bcell hb)
        go_roundw
        case rel => exact ⟨k + 1, by omega, by go_num, by rw [throwsTo_no hcan]; exact hown.below hb, hb0.trans (hb.mono hs0)⟩
        case measure => simp [intOf]; omega
      · go_wp2_with (first | (go_at_call 36; refine (c_spec_l08Can _ _ _ _ (by omega) hm).mono ?_; rintro e w1 ⟨rfl, hb⟩; obtain ⟨hc, hf⟩ := bcell hb) | (at_builtin; refine push_int rfl _ _ _ _ rfl Tryz.underlying26 infoI (w.heap.size + 1) _ _ _ _ rfl rfl (OwnI.below hown hb) (by omega) (by have := hb.size; omega) ?_; intro v' w2 hown2 hb2 hs2))
        go_roundw
        case rel => exact ⟨k + 1, by omega, by go_num, by rw [throwsTo_yes hcan]; exact hown2, hb2 _ (hb0.trans (hb.mono hs0))⟩
        case measure => simp [intOf]; omega
    · have hk1 : (h + 1).toNat = k := by omega
      have H : Hid (throwsTo h m k = throwsL h m) := by unfold Hid throwsL; rw [hk1]
      clear hk1
      go_wp2
      go_ret
      exact ⟨_, rfl, by rw [← H.out]; exact hown.base (by omega), ((Below.refl _ _).al _).trans (hb0.mono (by simp))⟩
end Go.Proofs.YtioemkdapoombaaGreatDoor
end
