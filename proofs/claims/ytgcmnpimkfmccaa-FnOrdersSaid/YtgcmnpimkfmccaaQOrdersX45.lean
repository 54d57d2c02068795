/- The law OrdersX: what it rests on, part 45 of 48. -/
import Derived.Test.YtgcmnpimkfmccaaQOrdersX06
import Derived.Test.YtgcmnpimkfmccaaQOrdersX26
import Derived.Test.YtgcmnpimkfmccaaQOrdersX31
namespace Go.Proofs.Ytgcmnpimkfmccaa
open Go.ChangeShapes Go.WideShapes Go.ChangeAt Go.RowKit
set_option linter.unusedSimpArgs false
set_option linter.unusedVariables false
set_option maxHeartbeats 8000000 in
set_option maxRecDepth 100000 in
theorem c_impl_throws_1 (lo bt bp : Nat) (xs T Q : List Int) (part : Int) (v vt vq : Value) (w : World) (hr : RdI w v xs) (hv : ∀ b, v.ownBlock = some b → ¬ rowsOf bt bp vt vq b) (h2 : TwoAt 2 lo bt bp w vt vq T Q) (hTl : T.length + xs.length < 100000000) (hQl : Q.length + xs.length < 100000000) (hlo : lo ≤ w.heap.size) :
    Calls Try.prog 88 #[v, .int .i64 part, .pointer (some ⟨bt, 0, none⟩), .pointer (some ⟨bp, 0, none⟩)] w fun e w' => e = .returned (.tuple #[]) ∧ ∃ vt' vq', TwoAt 2 lo bt bp w' vt' vq' (T ++ xs) (Q ++ List.replicate xs.length part) ∧ NextV w.heap.size vt vt' ∧ NextV w.heap.size vq vq' ∧ UpdS (rowsOf bt bp vt vq) w w' := by
  obtain ⟨a1, cap1, rfl, hl1, hc⟩ := hr
  have HC := Lib.hid hc
  have HV := Lib.hid hv
  clear hv hc
  go_enter Try.func88, Try.ntmps88
  go_wp2_with fail
  go_loopw [10] (fun i wr => ∃ k : Nat, k ≤ xs.length ∧ i = .int .i64 k ∧ ∃ vt' vq', TwoAt 2 lo bt bp wr vt' vq' (T ++ xs.take k) (Q ++ List.replicate k part) ∧ NextV w.heap.size vt vt' ∧ NextV w.heap.size vq vq' ∧ UpdS (rowsOf bt bp vt vq) w wr) (fun i _ => xs.length - (intOf i).toNat)
  case atStart => exact ⟨0, by omega, rfl, vt, vq, by simpa using h2, NextV.refl _ _, NextV.refl _ _, UpdS.refl _ _⟩
  case round =>
    clear h2
    obtain ⟨k, hk, rfl, vt', vq', t2, n1, n2, up⟩ := hrel
    by_cases hlt : k < xs.length
    · obtain ⟨b1, o1, he, x0⟩ := HC.out k hlt
      subst he
      have x0 := up.cell x0 (HV.out b1 rfl)
      obtain ⟨x, Hx⟩ : ∃ x, Hid (xs.getD k 0 = x) := ⟨_, rfl⟩
      have hgx : xs[k] = x := by have := Hx.out; simpa [List.getD, hlt] using this
      have HT : Hid (T ++ xs.take (k + 1) = (T ++ xs.take k) ++ [x]) := by unfold Hid; rw [take_snoc xs k hlt, hgx, List.append_assoc]
      have HQ : Hid (Q ++ List.replicate (k + 1) part = (Q ++ List.replicate k part) ++ [part]) := by unfold Hid; rw [List.replicate_succ', List.append_assoc]
      have hTk : (T ++ xs.take k).length < 1000000000 := by rw [List.length_append, List.length_take]; omega
      have hQk : (Q ++ List.replicate k part).length < 1000000000 := by rw [List.length_append, List.length_replicate]; omega
      rw [Hx.out] at x0
      clear hgx
      obtain ⟨T1, HT1⟩ : ∃ T1, Hid (T ++ xs.take k = T1) := ⟨_, rfl⟩
      obtain ⟨Q1, HQ1⟩ : ∃ Q1, Hid (Q ++ List.replicate k part = Q1) := ⟨_, rfl⟩
      rw [HT1.out] at t2 hTk HT
      rw [HQ1.out] at t2 hQk HQ
      have hs := up.size
      have M0 := t2.mid
      have M := M0.below ((Below.refl _ _).dr)
      have hin0 : (0 : Int) ≤ (k : Int) := by omega
      have hin1 : (k : Int) < (xs.length : Int) := by omega
      have ct := M.ct
      have cp := M.cp
      have ft := M.ft
      have fp := M.fp
      have hne1 : bt ≠ bp := M.ne
      have hne2 : bp ≠ bt := fun e => hne1 e.symm
      have hna : (⟨bp, 0, none⟩ : Addr) ≠ ⟨bt, 0, none⟩ := fun e => hne2 (congrArg Addr.block e)
      have na : wr.heap.size ≠ bt := World.new_ne wr _ M0.ct
      have nb : wr.heap.size ≠ bp := World.new_ne wr _ M0.cp
      have na1 : wr.heap.size + 1 ≠ bt := by have : bt < wr.heap.size := World.block_lt_of_cell? wr _ M0.ct; omega
      have nb1 : wr.heap.size + 1 ≠ bp := by have : bp < wr.heap.size := World.block_lt_of_cell? wr _ M0.cp; omega
      have nc := na.symm
      have nd := nb.symm
      have nc1 := na1.symm
      have nd1 := nb1.symm
      have cta : ∀ ob, (wr.alloc ob).drew.cell? ⟨bt, 0, none⟩ = some vt' := fun ob => al_c ob M0.ct
      have cpa : ∀ ob, (wr.alloc ob).drew.cell? ⟨bp, 0, none⟩ = some vq' := fun ob => al_c ob M0.cp
      have cta2 : ∀ o1 o2, ((wr.alloc o1).alloc o2).drew.cell? ⟨bt, 0, none⟩ = some vt' := fun o1 o2 => al_c o2 (al_c o1 M0.ct)
      have cpa2 : ∀ o1 o2, ((wr.alloc o1).alloc o2).drew.cell? ⟨bp, 0, none⟩ = some vq' := fun o1 o2 => al_c o2 (al_c o1 M0.cp)
      have HM := Lib.hid M
      have HM0 := Lib.hid M0
      have HUP := Lib.hid up
      have HN := Lib.hid (And.intro n1 n2)
      clear M M0 up n1 n2 t2
      go_wp2_with fail
      have hlow : lo ≤ wr.heap.size := by omega
      refine wp_region_noPanic ?_
      refine wp_region_L (S := untilL 3 7 (fun w' => w'.cell? ⟨bt, 0, none⟩ = some vt') (fun w' => w'.cell? ⟨bp, 0, none⟩ = some vq')) (by kernel_rfl) ?_
      refine wpAnyL_take (S0 := fun _ => True) (i := 1) (q := 2) (v := ?tv1) rfl rfl (by kernel_rfl) (by kernel_rfl) (by kernel_rfl) (by kernel_rfl) (by kernel_rfl) (fun _ _ _ h => h) (fun _ _ _ _ => True.intro) (untilL_set (by decide) (by decide)) (Or.inl ⟨by rfl, ?thy1⟩) ⟨fun _ => ct, fun _ => cp⟩ ?trest1
      case thy1 => (intro w hSw; (try dsimp only at hSw); go_simp; (try with_reducible rfl))
      (try simp only [Act.put, List.getElem_toArray, List.getElem_cons_zero, List.getElem_cons_succ, List.setIfInBounds_toArray, List.set_cons_zero, List.set_cons_succ])
      refine wpAnyL_take (S0 := fun _ => True) (i := 5) (q := 6) (v := ?tv2) rfl rfl (by kernel_rfl) (by kernel_rfl) (by kernel_rfl) (by kernel_rfl) (by kernel_rfl) (fun _ _ _ h => h) (fun _ _ _ _ => True.intro) (untilL_set (by decide) (by decide)) (Or.inl ⟨by rfl, ?thy2⟩) ⟨fun _ => ct, fun _ => cp⟩ ?trest2
      case thy2 => (intro w hSw; (try dsimp only at hSw); go_simp; (try with_reducible rfl))
      (try simp only [Act.put, List.getElem_toArray, List.getElem_cons_zero, List.getElem_cons_succ, List.setIfInBounds_toArray, List.set_cons_zero, List.set_cons_succ])
      refine wpAnyL_take (S0 := fun w' => w'.cell? ⟨bt, 0, none⟩ = some vt') (i := 0) (q := 3) (v := ?tv3) rfl rfl (by kernel_rfl) (by kernel_rfl) (by kernel_rfl) (by kernel_rfl) (by kernel_rfl) (fun _ _ _ h => h) (fun _ _ hq hS => hS.1 hq) (untilL_set (by decide) (by decide)) (Or.inl ⟨by rfl, ?thy3⟩) ⟨fun _ => ct, fun _ => cp⟩ ?trest3
      case thy3 => (intro w hSw; (try dsimp only at hSw); go_simp; (try with_reducible rfl))
      (try simp only [Act.put, List.getElem_toArray, List.getElem_cons_zero, List.getElem_cons_succ, List.setIfInBounds_toArray, List.set_cons_zero, List.set_cons_succ])
      refine wpAnyL_take (S0 := fun w' => w'.cell? ⟨bp, 0, none⟩ = some vq') (i := 4) (q := 7) (v := ?tv4) rfl rfl (by kernel_rfl) (by kernel_rfl) (by kernel_rfl) (by kernel_rfl) (by kernel_rfl) (fun _ _ _ h => h) (fun _ _ hq hS => hS.2 hq) (untilL_set (by decide) (by decide)) (Or.inl ⟨by rfl, ?thy4⟩) ⟨fun _ => ct, fun _ => cp⟩ ?trest4
      case thy4 => (intro w hSw; (try dsimp only at hSw); go_simp; (try with_reducible rfl))
      (try simp only [Act.put, List.getElem_toArray, List.getElem_cons_zero, List.getElem_cons_succ, List.setIfInBounds_toArray, List.set_cons_zero, List.set_cons_succ])
      refine wpAnyL_ready (rs := [2, 6]) (by kernel_rfl) (by simp) ?_
      refine (AllReadyL.cons (i := 2) rfl (fun K hK => ?_) (AllReadyL.cons (i := 6) rfl (fun K hK => ?_) AllReadyL.nil))
      · go_simp
        refine hK.out _ _ ⟨fun _ => cta _, fun _ => cpa _⟩ (fun hHeld => ?_)
        clear hK K
        (try simp only [Act.put, List.getElem_toArray, List.getElem_cons_zero, List.getElem_cons_succ, List.setIfInBounds_toArray, List.set_cons_zero, List.set_cons_succ])
        refine wpAnyL_ready (rs := [3, 6]) (by kernel_rfl) (by simp) ?_
        refine (AllReadyL.cons (i := 3) rfl (fun K hK => ?_) (AllReadyL.cons (i := 6) rfl (fun K hK => ?_) AllReadyL.nil))
        · refine step_push_T (HM0.out.below ((Below.refl _ _).al _).dr) rfl _ _ _ rfl Try.underlying28 infoI x wr.heap.size rfl rfl ?_ hTk hlow ?_
          · go_simp
          intro v9 w9 M9 hg9 hs9
          have ct9 := M9.ct
          have cp9 := M9.cp
          have cpa9 : ∀ ob, (w9.alloc ob).cell? ⟨bp, 0, none⟩ = some vq' := fun ob => al_c ob cp9
          have cta9 : ∀ ob, (w9.alloc ob).cell? ⟨bt, 0, none⟩ = some vt' := fun ob => al_c ob ct9
          obtain ⟨ad9, n9, c9, e9⟩ := M9.st
          subst e9
          refine hK.out _ _ ⟨fun _ => ct9, fun _ => cp9⟩ (fun hHeld => ?_)
          clear hK K
          (try simp only [Act.put, List.getElem_toArray, List.getElem_cons_zero, List.getElem_cons_succ, List.setIfInBounds_toArray, List.set_cons_zero, List.set_cons_succ])
          refine wpAnyL_ready (rs := [6]) (by kernel_rfl) (by simp) ?_
          refine (AllReadyL.cons (i := 6) rfl (fun K hK => ?_) AllReadyL.nil)
          go_simp
          refine hK.out _ _ ⟨fun _ => cta9 _, fun _ => cpa9 _⟩ (fun hHeld => ?_)
          clear hK K
          (try simp only [Act.put, List.getElem_toArray, List.getElem_cons_zero, List.getElem_cons_succ, List.setIfInBounds_toArray, List.set_cons_zero, List.set_cons_succ])
          refine wpAnyL_ready (rs := [7]) (by kernel_rfl) (by simp) ?_
          refine (AllReadyL.cons (i := 7) rfl (fun K hK => ?_) AllReadyL.nil)
          refine step_push_Q (M9.below ((Below.refl _ _).al _)) rfl _ _ _ rfl Try.underlying28 infoI part w9.heap.size rfl rfl ?_ hQk hlow ?_
          · go_simp
          intro v10 w10 M10 hg10 hs10
          have ct10 := M10.ct
          have cp10 := M10.cp
          have ft10 := M10.ft
          have fp10 := M10.fp
          obtain ⟨ad10, n10, c10, e10⟩ := M10.sp
          subst e10
          refine hK.out _ _ ⟨fun _ => ct10, fun _ => cp10⟩ (fun hHeld => ?_)
          clear hK K
          (try simp only [Act.put, List.getElem_toArray, List.getElem_cons_zero, List.getElem_cons_succ, List.setIfInBounds_toArray, List.set_cons_zero, List.set_cons_succ])
          refine wpAnyL_ready (rs := [8]) (by kernel_rfl) (by simp) ?_
          refine (AllReadyL.cons (i := 8) rfl (fun K hK => ?_) AllReadyL.nil)
          go_simp
          refine hK.out _ _ ⟨(fun h => Bool.noConfusion (show true = false from h)), (fun h => Bool.noConfusion (show true = false from h))⟩ (fun hHeld => ?_)
          clear hK K
          (try simp only [Act.put, List.getElem_toArray, List.getElem_cons_zero, List.getElem_cons_succ, List.setIfInBounds_toArray, List.set_cons_zero, List.set_cons_succ])
          refine wpAnyL_ready (rs := [9]) (by kernel_rfl) (by simp) ?_
          refine (AllReadyL.cons (i := 9) rfl (fun K hK => ?_) AllReadyL.nil)
          go_simp
          refine hK.out _ _ ⟨(fun h => Bool.noConfusion (show true = false from h)), (fun h => Bool.noConfusion (show true = false from h))⟩ (fun hHeld => ?_)
          clear hK K
          (try simp only [Act.put, List.getElem_toArray, List.getElem_cons_zero, List.getElem_cons_succ, List.setIfInBounds_toArray, List.set_cons_zero, List.set_cons_succ])
          refine wpAnyL_done (by kernel_rfl) ?_ _
          refine NoPanic.normal ?_
          obtain ⟨R1, R2, R3, R4⟩ := M10.stored
          rw [← HT.out, ← HQ.out] at R1
          have R5 := HN.out.1.trans (R2.low hs)
          have R6 := HN.out.2.trans (R3.low hs)
          have R7 := HUP.out.trans R4 (rowsOf_back HN.out.1 HN.out.2)
          have HR := Lib.hid (And.intro R1 (And.intro R5 (And.intro R6 R7)))
          generalize ((w10.setCell ⟨bt, 0, none⟩ (.slice (some ad9) n9 c9)).setCell ⟨bp, 0, none⟩ (.slice (some ad10) n10 c10)) = wz at *
          clear R1 R2 R3 R4 R5 R6 R7 M10 M9 ct9 cp9 cta9 cpa9 ct10 cp10 ft10 fp10 hg9 hs9 hg10 hs10 ct cp ft fp cta cpa cta2 cpa2 na nb nc nd na1 nb1 nc1 nd1 HM HM0 HUP HN
          go_wp2
          go_roundw
          case rel => exact ⟨k + 1, by omega, by go_num, _, _, HR.out⟩
          case measure => simp [intOf]; omega
        · go_simp
          refine hK.out _ _ ⟨fun _ => cta2 _ _, fun _ => cpa2 _ _⟩ (fun hHeld => ?_)
          clear hK K
          (try simp only [Act.put, List.getElem_toArray, List.getElem_cons_zero, List.getElem_cons_succ, List.setIfInBounds_toArray, List.set_cons_zero, List.set_cons_succ])
          refine wpAnyL_ready (rs := [3]) (by kernel_rfl) (by simp) ?_
          refine (AllReadyL.cons (i := 3) rfl (fun K hK => ?_) AllReadyL.nil)
          refine step_push_T (HM0.out.below (((Below.refl _ _).al _).al _).dr) rfl _ _ _ rfl Try.underlying28 infoI x wr.heap.size rfl rfl ?_ hTk hlow ?_
          · go_simp
          intro v9 w9 M9 hg9 hs9
          have ct9 := M9.ct
          have cp9 := M9.cp
          have cpa9 : ∀ ob, (w9.alloc ob).cell? ⟨bp, 0, none⟩ = some vq' := fun ob => al_c ob cp9
          have cta9 : ∀ ob, (w9.alloc ob).cell? ⟨bt, 0, none⟩ = some vt' := fun ob => al_c ob ct9
          have qc9 : w9.cell? ⟨(wr.heap.size + 1), 0, none⟩ = some (.int .i64 part) := grownB hg9 (by go_simp) (fun e => by have := (World.ownsRow.lt HM0.out.ot _ e).2; omega)
          obtain ⟨ad9, n9, c9, e9⟩ := M9.st
          subst e9
          refine hK.out _ _ ⟨fun _ => ct9, fun _ => cp9⟩ (fun hHeld => ?_)
          clear hK K
          (try simp only [Act.put, List.getElem_toArray, List.getElem_cons_zero, List.getElem_cons_succ, List.setIfInBounds_toArray, List.set_cons_zero, List.set_cons_succ])
          refine wpAnyL_ready (rs := [7]) (by kernel_rfl) (by simp) ?_
          refine (AllReadyL.cons (i := 7) rfl (fun K hK => ?_) AllReadyL.nil)
          refine step_push_Q M9 rfl _ _ _ rfl Try.underlying28 infoI part (wr.heap.size + 1) rfl rfl ?_ hQk hlow ?_
          · exact qc9
          intro v10 w10 M10 hg10 hs10
          have ct10 := M10.ct
          have cp10 := M10.cp
          have ft10 := M10.ft
          have fp10 := M10.fp
          obtain ⟨ad10, n10, c10, e10⟩ := M10.sp
          subst e10
          refine hK.out _ _ ⟨fun _ => ct10, fun _ => cp10⟩ (fun hHeld => ?_)
          clear hK K
          (try simp only [Act.put, List.getElem_toArray, List.getElem_cons_zero, List.getElem_cons_succ, List.setIfInBounds_toArray, List.set_cons_zero, List.set_cons_succ])
          refine wpAnyL_ready (rs := [8]) (by kernel_rfl) (by simp) ?_
          refine (AllReadyL.cons (i := 8) rfl (fun K hK => ?_) AllReadyL.nil)
          go_simp
          refine hK.out _ _ ⟨(fun h => Bool.noConfusion (show true = false from h)), (fun h => Bool.noConfusion (show true = false from h))⟩ (fun hHeld => ?_)
          clear hK K
          (try simp only [Act.put, List.getElem_toArray, List.getElem_cons_zero, List.getElem_cons_succ, List.setIfInBounds_toArray, List.set_cons_zero, List.set_cons_succ])
          refine wpAnyL_ready (rs := [9]) (by kernel_rfl) (by simp) ?_
          refine (AllReadyL.cons (i := 9) rfl (fun K hK => ?_) AllReadyL.nil)
          go_simp
          refine hK.out _ _ ⟨(fun h => Bool.noConfusion (show true = false from h)), (fun h => Bool.noConfusion (show true = false from h))⟩ (fun hHeld => ?_)
          clear hK K
          (try simp only [Act.put, List.getElem_toArray, List.getElem_cons_zero, List.getElem_cons_succ, List.setIfInBounds_toArray, List.set_cons_zero, List.set_cons_succ])
          refine wpAnyL_done (by kernel_rfl) ?_ _
          refine NoPanic.normal ?_
          obtain ⟨R1, R2, R3, R4⟩ := M10.stored
          rw [← HT.out, ← HQ.out] at R1
          have R5 := HN.out.1.trans (R2.low hs)
          have R6 := HN.out.2.trans (R3.low hs)
          have R7 := HUP.out.trans R4 (rowsOf_back HN.out.1 HN.out.2)
          have HR := Lib.hid (And.intro R1 (And.intro R5 (And.intro R6 R7)))
          generalize ((w10.setCell ⟨bt, 0, none⟩ (.slice (some ad9) n9 c9)).setCell ⟨bp, 0, none⟩ (.slice (some ad10) n10 c10)) = wz at *
          clear R1 R2 R3 R4 R5 R6 R7 M10 M9 ct9 cp9 cta9 cpa9 ct10 cp10 ft10 fp10 hg9 hs9 hg10 hs10 ct cp ft fp cta cpa cta2 cpa2 na nb nc nd na1 nb1 nc1 nd1 HM HM0 HUP HN
          go_wp2
          go_roundw
          case rel => exact ⟨k + 1, by omega, by go_num, _, _, HR.out⟩
          case measure => simp [intOf]; omega
      · go_simp
        refine hK.out _ _ ⟨fun _ => cta _, fun _ => cpa _⟩ (fun hHeld => ?_)
        clear hK K
        (try simp only [Act.put, List.getElem_toArray, List.getElem_cons_zero, List.getElem_cons_succ, List.setIfInBounds_toArray, List.set_cons_zero, List.set_cons_succ])
        refine wpAnyL_ready (rs := [2]) (by kernel_rfl) (by simp) ?_
        refine (AllReadyL.cons (i := 2) rfl (fun K hK => ?_) AllReadyL.nil)
        go_simp
        refine hK.out _ _ ⟨fun _ => cta2 _ _, fun _ => cpa2 _ _⟩ (fun hHeld => ?_)
        clear hK K
        (try simp only [Act.put, List.getElem_toArray, List.getElem_cons_zero, List.getElem_cons_succ, List.setIfInBounds_toArray, List.set_cons_zero, List.set_cons_succ])
        refine wpAnyL_ready (rs := [3]) (by kernel_rfl) (by simp) ?_
        refine (AllReadyL.cons (i := 3) rfl (fun K hK => ?_) AllReadyL.nil)
        refine step_push_T (HM0.out.below (((Below.refl _ _).al _).al _).dr) rfl _ _ _ rfl Try.underlying28 infoI x (wr.heap.size + 1) rfl rfl ?_ hTk hlow ?_
        · go_simp
        intro v9 w9 M9 hg9 hs9
        have ct9 := M9.ct
        have cp9 := M9.cp
        have cpa9 : ∀ ob, (w9.alloc ob).cell? ⟨bp, 0, none⟩ = some vq' := fun ob => al_c ob cp9
        have cta9 : ∀ ob, (w9.alloc ob).cell? ⟨bt, 0, none⟩ = some vt' := fun ob => al_c ob ct9
        have qc9 : w9.cell? ⟨wr.heap.size, 0, none⟩ = some (.int .i64 part) := grownB hg9 (by go_simp) (fun e => by have := (World.ownsRow.lt HM0.out.ot _ e).2; omega)
        obtain ⟨ad9, n9, c9, e9⟩ := M9.st
        subst e9
        refine hK.out _ _ ⟨fun _ => ct9, fun _ => cp9⟩ (fun hHeld => ?_)
        clear hK K
        (try simp only [Act.put, List.getElem_toArray, List.getElem_cons_zero, List.getElem_cons_succ, List.setIfInBounds_toArray, List.set_cons_zero, List.set_cons_succ])
        refine wpAnyL_ready (rs := [7]) (by kernel_rfl) (by simp) ?_
        refine (AllReadyL.cons (i := 7) rfl (fun K hK => ?_) AllReadyL.nil)
        refine step_push_Q M9 rfl _ _ _ rfl Try.underlying28 infoI part wr.heap.size rfl rfl ?_ hQk hlow ?_
        · exact qc9
        intro v10 w10 M10 hg10 hs10
        have ct10 := M10.ct
        have cp10 := M10.cp
        have ft10 := M10.ft
        have fp10 := M10.fp
        obtain ⟨ad10, n10, c10, e10⟩ := M10.sp
        subst e10
        refine hK.out _ _ ⟨fun _ => ct10, fun _ => cp10⟩ (fun hHeld => ?_)
        clear hK K
        (try simp only [Act.put, List.getElem_toArray, List.getElem_cons_zero, List.getElem_cons_succ, List.setIfInBounds_toArray, List.set_cons_zero, List.set_cons_succ])
        refine wpAnyL_ready (rs := [8]) (by kernel_rfl) (by simp) ?_
        refine (AllReadyL.cons (i := 8) rfl (fun K hK => ?_) AllReadyL.nil)
        go_simp
        refine hK.out _ _ ⟨(fun h => Bool.noConfusion (show true = false from h)), (fun h => Bool.noConfusion (show true = false from h))⟩ (fun hHeld => ?_)
        clear hK K
        (try simp only [Act.put, List.getElem_toArray, List.getElem_cons_zero, List.getElem_cons_succ, List.setIfInBounds_toArray, List.set_cons_zero, List.set_cons_succ])
        refine wpAnyL_ready (rs := [9]) (by kernel_rfl) (by simp) ?_
        refine (AllReadyL.cons (i := 9) rfl (fun K hK => ?_) AllReadyL.nil)
        go_simp
        refine hK.out _ _ ⟨(fun h => Bool.noConfusion (show true = false from h)), (fun h => Bool.noConfusion (show true = false from h))⟩ (fun hHeld => ?_)
        clear hK K
        (try simp only [Act.put, List.getElem_toArray, List.getElem_cons_zero, List.getElem_cons_succ, List.setIfInBounds_toArray, List.set_cons_zero, List.set_cons_succ])
        refine wpAnyL_done (by kernel_rfl) ?_ _
        refine NoPanic.normal ?_
        obtain ⟨R1, R2, R3, R4⟩ := M10.stored
        rw [← HT.out, ← HQ.out] at R1
        have R5 := HN.out.1.trans (R2.low hs)
        have R6 := HN.out.2.trans (R3.low hs)
        have R7 := HUP.out.trans R4 (rowsOf_back HN.out.1 HN.out.2)
        have HR := Lib.hid (And.intro R1 (And.intro R5 (And.intro R6 R7)))
        generalize ((w10.setCell ⟨bt, 0, none⟩ (.slice (some ad9) n9 c9)).setCell ⟨bp, 0, none⟩ (.slice (some ad10) n10 c10)) = wz at *
        clear R1 R2 R3 R4 R5 R6 R7 M10 M9 ct9 cp9 cta9 cpa9 ct10 cp10 ft10 fp10 hg9 hs9 hg10 hs10 ct cp ft fp cta cpa cta2 cpa2 na nb nc nd na1 nb1 nc1 nd1 HM HM0 HUP HN
        go_wp2
        go_roundw
        case rel => exact ⟨k + 1, by omega, by go_num, _, _, HR.out⟩
        case measure => simp [intOf]; omega
    · obtain rfl : k = xs.length := by omega
      rw [List.take_length] at t2
      go_wp2
      go_end0
      exact ⟨rfl, vt', vq', t2, n1, n2, up⟩
end Go.Proofs.Ytgcmnpimkfmccaa
