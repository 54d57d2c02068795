/- The law LinesX: what it rests on, part 44 of 46. -/
import Derived.Test.YtioemkdapoombaaGreatDoorQLinesX41
import Derived.Test.YtioemkdapoombaaGreatDoorQLinesX03
section
namespace Go.Proofs.YtioemkdapoombaaGreatDoor
open Go.ChangeShapes Go.WideShapes Go.ChangeAt Go.RowKit
set_option linter.unusedVariables false
def ckT (R : Rc) (pl : List ByteArray) : Nat → List ByteArray
  | 0 => []
  | k + 1 => ckT R pl k ++ [pl.getD k ⟨#[]⟩, chkT (folR R pl (k + 1))]
theorem ckO_cons (s0 : ByteArray) (R : Rc) (pl : List ByteArray) : ∀ k, ckO s0 R pl k = s0 :: ckT R pl k
  | 0 => rfl
  | k + 1 => by unfold ckO ckT; rw [ckO_cons s0 R pl k]; rfl
section
variable {X : List ByteArray} {s0 : ByteArray} {pl : List ByteArray} {h m : Int}
theorem PlW.line (p : PlW X s0 pl h m) {k : Nat} (hk : k < pl.length) : lineF (folR (startR h m) pl k) (pl.getD k ⟨#[]⟩) = (0, folR (startR h m) pl (k + 1)) :=
  Prod.ext (p.ok k hk) rfl
theorem PlW.leads (p : PlW X s0 pl h m) : ∀ k, k < pl.length → Leads (startR h m) (ckT (startR h m) pl k) (folR (startR h m) pl k)
  | 0, _ => Leads.nil _
  | k + 1, hk => by
    have he := ok_e (p.ok (k + 1) hk)
    have hv := (p.val (k + 1) (by omega)).1
    exact (p.leads k (by omega)).append (Leads.cons (p.line (by omega)) (Leads.cons (line_chkW he hv rfl rfl) (Leads.nil _)))
theorem PlW.ckP (p : PlW X s0 pl h m) : ckP X = s0 :: (ckT (startR h m) pl (pl.length - 1) ++ [endT]) := by
  rw [ckP_eq p.eq p.st, ckO_cons]; rfl
theorem PlW.whole (p : PlW X s0 pl h m) : Leads (startR h m) (ckT (startR h m) pl (pl.length - 1) ++ [endT]) (folR (startR h m) pl pl.length) := by
  have hpos := p.pos
  have hl := p.line (k := pl.length - 1) (by omega)
  rw [p.last, show pl.length - 1 + 1 = pl.length by omega] at hl
  exact (p.leads _ (by omega)).append (Leads.cons hl (Leads.nil _))
theorem PlW.run_ck (p : PlW X s0 pl h m) : runF (Go.Proofs.YtioemkdapoombaaGreatDoor.ckP X) = (-1, 0, folR (startR h m) pl pl.length) := by
  obtain ⟨h1, h2⟩ := p.whole
  rw [p.ckP, runF_some p.st, runL_all 1 h1, h2, p.e]
  rfl
theorem PlW.run_pl (p : PlW X s0 pl h m) : runF (plL X) = (-1, 0, folR (startR h m) pl pl.length) := by
  rw [p.eq, runF_some p.st, runL_all 1 p.ok, p.e]
  rfl
theorem chk_hd {R : Rc} (hv : validB R.h R.m = true) : hdC (chkT R) = true := by
  obtain ⟨h1, h2⟩ := validB_iff.1 hv
  have hno : ∀ c ∈ bl (stT R.h R.m), c ≠ 32 := no_blank (fun i hi => by
    rw [stT_size] at hi
    rw [chr_stR hi]
    omega)
  have hw : words (chkT R) = [chkP, stT R.h R.m] := by
    have e : chkT R = (chkP ++ ⟨#[32]⟩) ++ stT R.h R.m := by
      have : (⟨#[99, 104, 101, 99, 107, 32]⟩ : ByteArray) = chkP ++ ⟨#[32]⟩ := by decide
      unfold chkT
      rw [this]
    rw [e, words_two chkP_no hno]
  rw [hd_cut hw]
  decide
theorem PlW.no_hd (p : PlW X s0 pl h m) : ∀ s ∈ pl, hdC s = false := fun s hs => by
  have hm : s ∈ plL X := by rw [p.eq]; exact List.mem_cons_of_mem _ hs
  have := (List.mem_filter.1 hm).2
  cases e : hdC s
  · rfl
  · rw [e] at this; cases this
theorem plL_app (A C : List ByteArray) : plL (A ++ C) = plL A ++ plL C := List.filter_append ..
theorem PlW.pl_ck (p : PlW X s0 pl h m) : ∀ k, k < pl.length → plL (ckT (startR h m) pl k) = pl.take k
  | 0, _ => rfl
  | k + 1, hk => by
    have hkk : k < pl.length := by omega
    have e1 : pl.getD k ⟨#[]⟩ = pl[k] := by simp [List.getD, hkk]
    have h1 := p.no_hd pl[k] (List.getElem_mem hkk)
    have h2 := chk_hd (p.val (k + 1) (by omega)).1
    show plL (ckT (startR h m) pl k ++ [pl.getD k ⟨#[]⟩, chkT (folR (startR h m) pl (k + 1))]) = _
    rw [plL_app, p.pl_ck k (by omega), e1, List.take_add_one, List.getElem?_eq_getElem hkk]
    congr 1
    unfold plL
    rw [List.filter_cons_of_pos (by rw [h1]; rfl), List.filter_cons_of_neg (by rw [h2]; simp)]
    rfl
theorem PlW.pl_same (p : PlW X s0 pl h m) : plL (Go.Proofs.YtioemkdapoombaaGreatDoor.ckP X) = plL X := by
  have hpos := p.pos
  have hlt : pl.length - 1 < pl.length := by omega
  have el : pl[pl.length - 1] = endT := by
    have := p.last
    rwa [show pl.getD (pl.length - 1) ⟨#[]⟩ = pl[pl.length - 1] by simp [List.getD, hlt]] at this
  have he : hdC endT = false := by rw [← el]; exact p.no_hd _ (List.getElem_mem hlt)
  rw [p.ckP, plX_cons p.st, p.eq, plL_app, p.pl_ck _ hlt]
  congr 1
  have e2 : plL [endT] = [endT] := by unfold plL; rw [List.filter_cons_of_pos (by rw [he]; rfl)]; rfl
  rw [e2, ← el]
  have h3 : pl.take (pl.length - 1 + 1) = pl.take (pl.length - 1) ++ [pl[pl.length - 1]] := by rw [List.take_add_one, List.getElem?_eq_getElem hlt]; rfl
  rw [← h3, show pl.length - 1 + 1 = pl.length by omega, List.take_length]
end
theorem rp_of {X Y : List ByteArray} (hx : askC X = 0) (hl : ¬ 60 < Y.length) (h : runF Y = (-1, 0, (runF X).2.2)) : askC Y = 0 ∧ rpH Y = rpH X ∧ rpM Y = rpM X ∧ rpN Y = rpN X := by
  have hy : askC Y = 0 := ask_ok hl (by rw [h])
  refine ⟨hy, ?_, ?_, ?_⟩
  · unfold rpH; rw [hy, hx, h]
  · unfold rpM; rw [hy, hx, h]
  · unfold rpN; rw [hy, hx, h]
/-- what the law asks of a record that is replayed -/
theorem lines_facts {X : List ByteArray} (h0 : askC X = 0) : (askC (plL X) = 0 ∧ rpH (plL X) = rpH X ∧ rpM (plL X) = rpM X ∧ rpN (plL X) = rpN X) ∧ rpN X = ((thL X).length : Int) ∧ (ckdC X = 0 ∨ ckdC X = 5) ∧
    (ckdC X = 0 → (askC (ckL X) = 0 ∧ rpH (ckL X) = rpH X ∧ rpM (ckL X) = rpM X ∧ rpN (ckL X) = rpN X) ∧ plL (ckL X) = plL X) := by
  obtain ⟨s0, pl, h, m, p⟩ := plW_of h0
  have hlen := p.len
  refine ⟨rp_of h0 (by rw [p.eq, List.length_cons]; omega) (by rw [p.run_pl, p.res]), by unfold rpN thL; rw [h0]; rfl, ?_, fun hc => ?_⟩
  · unfold ckdC
    rw [h0]
    cases decide (60 < (ckP X).length)
    · exact Or.inl rfl
    · exact Or.inr rfl
  · have hl : ¬ 60 < (ckP X).length := fun hl => by
      unfold ckdC at hc
      rw [h0, decide_eq_true hl] at hc
      cases hc
    have e : ckL X = ckP X := by unfold ckL; rw [h0, decide_eq_false hl]; rfl
    rw [e]
    exact ⟨rp_of h0 hl (by rw [p.run_ck, p.res]), p.pl_same⟩
theorem runL_first : ∀ (ls : List ByteArray) (R : Rc) (i : Int), 0 ≤ i → ((runL R ls i).1 = -1 ↔ (runL R ls i).2.1 = 0)
  | [], R, i, hi => by
    unfold runL
    cases R.e
    · simp only [cond_false]; constructor <;> intro h <;> omega
    · simp
  | s :: ls, R, i, hi => by
    rw [show runL R (s :: ls) i = bif (lineF R s).1 == 0 then runL (lineF R s).2 ls (i + 1) else (i, (lineF R s).1, R) from rfl]
    by_cases h0 : (lineF R s).1 = 0
    · rw [h0, beq_self_eq_true, cond_true]
      exact runL_first ls _ (i + 1) (by omega)
    · rw [beq_eq_false_iff_ne.2 h0, cond_false]
      constructor
      · intro h; have h2 : i = -1 := h; omega
      · intro h; exact absurd h h0
theorem ck_iff {X : List ByteArray} (hc : ckC X = 0) : ckA X = -1 ↔ askC X = 0 := by
  have hl : ¬ 60 < X.length := fun hl => by unfold ckC at hc; rw [decide_eq_true hl] at hc; cases hc
  have e : ckA X = (runF X).1 := by unfold ckA; rw [decide_eq_false hl]; rfl
  have key : (runF X).1 = -1 ↔ (runF X).2.1 = 0 := by
    cases X with
    | nil => constructor <;> intro h <;> cases h
    | cons s ls =>
      cases hs : startF s with
      | none => rw [runF_none hs]; constructor <;> intro h <;> cases h
      | some hm =>
        obtain ⟨a, m⟩ := hm
        rw [runF_some hs]
        exact runL_first ls _ 1 (by decide)
  rw [e, key]
  constructor
  · intro h; exact ask_ok hl h
  · intro h; exact (ask_run h).2
end Go.Proofs.YtioemkdapoombaaGreatDoor
end
section
namespace Go.Proofs.YtioemkdapoombaaGreatDoor
open Go.ChangeShapes Go.WideShapes Go.ChangeAt Go.RowKit
set_option linter.unusedVariables false
def stepName (k : Int) : ByteArray :=
  if k = 0 then ⟨#[110, 111, 110, 101]⟩ else
  if k = 1 then ⟨#[115, 116, 97, 114, 116]⟩ else
  if k = 2 then ⟨#[102, 111, 114, 109]⟩ else
  if k = 3 then ⟨#[116, 104, 114, 111, 119]⟩ else
  if k = 4 then ⟨#[115, 116, 97, 116, 101]⟩ else
  if k = 5 then ⟨#[112, 97, 116, 116, 101, 114, 110]⟩ else
  if k = 6 then ⟨#[101, 110, 100]⟩ else
  ⟨#[]⟩
set_option maxHeartbeats 2000000 in
theorem c_impl_StepName (k : Int) (w : World) : Calls Tryz.prog 28 #[.int .i64 k] w fun e w' => e = .returned (.string (stepName k)) ∧ Below w.heap.size w w' := by
  cases h : inB k 0 6
  · have hn : stepName k = ⟨#[]⟩ := by
      have h' : ¬ (0 ≤ k ∧ k ≤ 6) := fun c => by rw [inB_iff.2 c] at h; cases h
      unfold stepName
      rw [if_neg (by omega), if_neg (by omega), if_neg (by omega), if_neg (by omega), if_neg (by omega), if_neg (by omega), if_neg (by omega)]
    have HN := Lib.hid hn
    clear hn
    go_enter Tryz.func28, Tryz.ntmps28
    go_wp2_with (go_at_call 65; refine (c_impl_between _ _ _ _).mono ?_; rintro e w1 ⟨rfl, rfl⟩)
    go_ret
    exact ⟨by rw [HN.out]; rfl, by (repeat (first | (with_reducible assumption) | (with_reducible exact Below.refl _ _) | (with_reducible refine Below.setCell ?_ (by first | (simp; done) | (simp; omega)) _) | (with_reducible refine Below.al ?_ _) | (with_reducible refine Below.dr ?_) | (with_reducible refine Below.drN ?_ _) | (with_reducible refine Below.tr ?_ (by with_reducible assumption))))⟩
  · have h' := inB_iff.1 h
    have hc : k = 0 ∨ k = 1 ∨ k = 2 ∨ k = 3 ∨ k = 4 ∨ k = 5 ∨ k = 6 := by omega
    clear h'
    rcases hc with rfl | rfl | rfl | rfl | rfl | rfl | rfl
    all_goals
      go_enter Tryz.func28, Tryz.ntmps28
      go_wp2_with (go_at_call 65; refine (c_impl_between _ _ _ _).mono ?_; rintro e w1 ⟨rfl, rfl⟩)
      go_ret
      exact ⟨rfl, by (repeat (first | (with_reducible assumption) | (with_reducible exact Below.refl _ _) | (with_reducible refine Below.setCell ?_ (by first | (simp; done) | (simp; omega)) _) | (with_reducible refine Below.al ?_ _) | (with_reducible refine Below.dr ?_) | (with_reducible refine Below.drN ?_ _) | (with_reducible refine Below.tr ?_ (by with_reducible assumption))))⟩
set_option maxHeartbeats 2000000 in
theorem c_spec_StepName (k : Int) (w : World) : Calls Tryz.prog 29 #[.int .i64 k] w fun e w' => e = .returned (.string (stepName k)) ∧ Below w.heap.size w w' := by
  cases h : inB k 0 6
  · have hn : stepName k = ⟨#[]⟩ := by
      have h' : ¬ (0 ≤ k ∧ k ≤ 6) := fun c => by rw [inB_iff.2 c] at h; cases h
      unfold stepName
      rw [if_neg (by omega), if_neg (by omega), if_neg (by omega), if_neg (by omega), if_neg (by omega), if_neg (by omega), if_neg (by omega)]
    have HN := Lib.hid hn
    clear hn
    go_enter Tryz.func29, Tryz.ntmps29
    go_wp2_with (go_at_call 66; refine (c_spec_l00In _ _ _ _).mono ?_; rintro e w1 ⟨rfl, rfl⟩)
    go_ret
    exact ⟨by rw [HN.out]; rfl, by (repeat (first | (with_reducible assumption) | (with_reducible exact Below.refl _ _) | (with_reducible refine Below.setCell ?_ (by first | (simp; done) | (simp; omega)) _) | (with_reducible refine Below.al ?_ _) | (with_reducible refine Below.dr ?_) | (with_reducible refine Below.drN ?_ _) | (with_reducible refine Below.tr ?_ (by with_reducible assumption))))⟩
  · have h' := inB_iff.1 h
    have hc : k = 0 ∨ k = 1 ∨ k = 2 ∨ k = 3 ∨ k = 4 ∨ k = 5 ∨ k = 6 := by omega
    clear h'
    rcases hc with rfl | rfl | rfl | rfl | rfl | rfl | rfl
    all_goals
      go_enter Tryz.func29, Tryz.ntmps29
      go_wp2_with (go_at_call 66; refine (c_spec_l00In _ _ _ _).mono ?_; rintro e w1 ⟨rfl, rfl⟩)
      go_ret
      exact ⟨rfl, by (repeat (first | (with_reducible assumption) | (with_reducible exact Below.refl _ _) | (with_reducible refine Below.setCell ?_ (by first | (simp; done) | (simp; omega)) _) | (with_reducible refine Below.al ?_ _) | (with_reducible refine Below.dr ?_) | (with_reducible refine Below.drN ?_ _) | (with_reducible refine Below.tr ?_ (by with_reducible assumption))))⟩
end Go.Proofs.YtioemkdapoombaaGreatDoor
end
