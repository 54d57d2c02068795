/- The law LinesX: what it rests on, part 38 of 46. -/
import Derived.Test.YtioemkdapoombaaGreatDoorQLinesX37
namespace Go.Proofs.YtioemkdapoombaaGreatDoor
open Go.ChangeShapes Go.WideShapes Go.ChangeAt Go.RowKit
set_option linter.unusedSimpArgs false
set_option linter.unusedVariables false
def hdW : List ByteArray → Bool
  | a :: _ => bl a == chkW
  | [] => false
def afW : List ByteArray → Bool
  | a :: _ :: _ => bl a == chkW
  | _ => false
/-- whether a line's first word is check (the program's test); .. and more follows it (the reference's) -/
def hdC (s : ByteArray) : Bool := hdW (words s)
def afC (s : ByteArray) : Bool := afW (words s)
theorem af_hd {s : ByteArray} (h : afC s = true) : hdC s = true := by
  unfold afC at h
  unfold hdC
  rcases hw : words s with _ | ⟨a, _ | ⟨b, ws⟩⟩
  · rw [hw] at h; cases h
  · rw [hw] at h; cases h
  · rw [hw] at h; exact h
theorem checkF_R {R : Rc} {b : ByteArray} : (checkF R b).2 = R := by
  unfold checkF
  cases rsB b
  · rfl
  · simp only [cond_true]
    cases (decide ((b.size : Int) = R.h) && decide (rsM b b.size = R.m)) <;> rfl
theorem ok_e {R : Rc} {s : ByteArray} (h : (lineF R s).1 = 0) : R.e = false := by
  cases he : R.e
  · rfl
  · rw [line_e he] at h; cases h
theorem end_words {s : ByteArray} (h : (s.toList == [101, 110, 100]) = true) : words s = [s] := by
  have h1 : s.toList = [101, 110, 100] := eq_of_beq h
  rw [tl_bl] at h1
  unfold words
  rw [h1]
  show [bsT [101, 110, 100]] = [s]
  rw [← h1, bsT_bl]
theorem ok_check {R : Rc} {s : ByteArray} (h : (lineF R s).1 = 0) (hc : hdC s = true) : afC s = true ∧ (lineF R s).2 = R := by
  have he := ok_e h
  unfold hdC at hc
  cases hend : (s.toList == [101, 110, 100])
  · rw [line_w he hend] at h ⊢
    unfold afC
    rcases hw : words s with _ | ⟨a, _ | ⟨b, _ | ⟨c, _ | ⟨d, ws⟩⟩⟩⟩
    · exact absurd hw (words_ne s)
    · rw [hw] at h; cases h
    · rw [hw] at h hc
      have ha : bl a = chkW := eq_of_beq hc
      have h1 : (bl a == thrW) = false := by rw [ha]; rfl
      refine ⟨hc, ?_⟩
      show (bif bl a == thrW then (bif okDig b then makeF R (digsTo b b.size) else (2, R)) else (bif bl a == chkW then checkF R b else (2, R))).2 = R
      rw [h1, show (bl a == chkW) = true from hc]
      exact checkF_R
    · rw [hw] at h hc
      have ha : bl a = chkW := eq_of_beq hc
      have h1 : (bl a == patT) = false := by rw [ha]; rfl
      change (bif bl a == patT then patF R b c else (2, R)).1 = 0 at h
      rw [h1] at h; cases h
    · rw [hw] at h; cases h
  · rw [end_words hend] at hc
    have h1 : s.toList = [101, 110, 100] := eq_of_beq hend
    rw [tl_bl] at h1
    change (bl s == chkW) = true at hc
    rw [h1] at hc; cases hc
theorem start_hd {s : ByteArray} {h m : Int} (e : startF s = some (h, m)) : hdC s = false := by
  unfold startF at e
  split at e
  · rename_i p t hw
    split at e
    · rename_i hc
      unfold hdC
      rw [hw]
      show (bl p == chkW) = false
      rw [hc.1]; rfl
    · cases e
  · cases e
theorem af_false {s : ByteArray} (h : hdC s = false) : afC s = false := by
  cases ha : afC s
  · rfl
  · rw [af_hd ha] at h; cases h
/-- the state behind k lines -/
def folR (R : Rc) (ls : List ByteArray) : Nat → Rc
  | 0 => R
  | k + 1 => (lineF (folR R ls k) (ls.getD k ⟨#[]⟩)).2
theorem folR_cons (R : Rc) (s : ByteArray) (ls : List ByteArray) : ∀ k, folR R (s :: ls) (k + 1) = folR (lineF R s).2 ls k
  | 0 => rfl
  | k + 1 => by
    show (lineF (folR R (s :: ls) (k + 1)) ((s :: ls).getD (k + 1) ⟨#[]⟩)).2 = (lineF (folR (lineF R s).2 ls k) (ls.getD k ⟨#[]⟩)).2
    rw [folR_cons R s ls k]; rfl
theorem folR_take (R : Rc) (ls : List ByteArray) (n : Nat) : ∀ k, k ≤ n → folR R (ls.take n) k = folR R ls k
  | 0, _ => rfl
  | k + 1, h => by
    show (lineF (folR R (ls.take n) k) ((ls.take n).getD k ⟨#[]⟩)).2 = (lineF (folR R ls k) (ls.getD k ⟨#[]⟩)).2
    rw [folR_take R ls n k (by omega)]
    congr 2
    simp [List.getD, List.getElem?_take, show k < n by omega]
/-- all lines are right -/
def okL (R : Rc) (ls : List ByteArray) : Prop := ∀ k, k < ls.length → (lineF (folR R ls k) (ls.getD k ⟨#[]⟩)).1 = 0
theorem okL_cons {R : Rc} {s : ByteArray} {ls : List ByteArray} : okL R (s :: ls) ↔ (lineF R s).1 = 0 ∧ okL (lineF R s).2 ls := by
  constructor
  · intro h
    refine ⟨h 0 (by simp), fun k hk => ?_⟩
    have := h (k + 1) (by simpa using hk)
    rw [folR_cons] at this; exact this
  · rintro ⟨h1, h2⟩ k hk
    cases k with
    | zero => exact h1
    | succ k => rw [folR_cons]; exact h2 k (by simpa using hk)
theorem okL_take {R : Rc} {ls : List ByteArray} (h : okL R ls) (n : Nat) : okL R (ls.take n) := fun k hk => by
  rw [List.length_take] at hk
  rw [folR_take R ls n k (by omega)]
  have : (ls.take n).getD k ⟨#[]⟩ = ls.getD k ⟨#[]⟩ := by simp [List.getD, List.getElem?_take, show k < n by omega]
  rw [this]
  exact h k (by omega)
theorem runL_all : ∀ {ls : List ByteArray} {R : Rc} (i : Int), okL R ls → runL R ls i = bif (folR R ls ls.length).e then (-1, 0, folR R ls ls.length) else (i + (ls.length : Int), 6, folR R ls ls.length)
  | [], R, i, _ => by
    show (bif R.e then _ else _) = (bif R.e then _ else _)
    cases R.e <;> simp [folR]
  | s :: ls, R, i, h => by
    obtain ⟨h1, h2⟩ := okL_cons.1 h
    rw [List.length_cons, folR_cons]
    unfold runL
    rw [h1, beq_self_eq_true, cond_true, runL_all (i + 1) h2]
    cases (folR (lineF R s).2 ls ls.length).e
    · simp only [cond_false]
      congr 1
      push_cast
      omega
    · rfl
theorem runL_okL : ∀ {ls : List ByteArray} {R : Rc} {i : Int}, (runL R ls i).2.1 = 0 → okL R ls ∧ (folR R ls ls.length).e = true
  | [], R, i, h => by
    refine ⟨fun k hk => absurd hk (Nat.not_lt_zero _), ?_⟩
    show R.e = true
    unfold runL at h
    cases he : R.e
    · rw [he] at h; cases h
    · rfl
  | s :: ls, R, i, h => by
    unfold runL at h
    by_cases h0 : (lineF R s).1 = 0
    · rw [h0, beq_self_eq_true, cond_true] at h
      obtain ⟨h1, h2⟩ := runL_okL h
      exact ⟨okL_cons.2 ⟨h0, h1⟩, by rw [List.length_cons, folR_cons]; exact h2⟩
    · rw [beq_eq_false_iff_ne.2 h0, cond_false] at h
      exact absurd h h0
def plL (X : List ByteArray) : List ByteArray := X.filter (fun s => !hdC s)
def plS (X : List ByteArray) : List ByteArray := X.filter (fun s => !afC s)
theorem run_filter : ∀ {ls : List ByteArray} {R : Rc} {i : Int} (j : Int), (runL R ls i).2.1 = 0 → runL R (plL ls) j = (-1, 0, (runL R ls i).2.2)
  | [], R, i, j, h => by
    unfold runL at h ⊢
    show (bif R.e then _ else _) = _
    cases he : R.e
    · rw [he] at h; cases h
    · rfl
  | s :: ls, R, i, j, h => by
    rw [show runL R (s :: ls) i = bif (lineF R s).1 == 0 then runL (lineF R s).2 ls (i + 1) else (i, (lineF R s).1, R) from rfl] at h ⊢
    by_cases h0 : (lineF R s).1 = 0
    · rw [h0, beq_self_eq_true, cond_true] at h ⊢
      cases hc : hdC s
      · have e : plL (s :: ls) = s :: plL ls := by unfold plL; rw [List.filter_cons_of_pos (by rw [hc]; rfl)]
        rw [e]
        show (bif (lineF R s).1 == 0 then runL (lineF R s).2 (plL ls) (j + 1) else _) = _
        rw [h0, beq_self_eq_true, cond_true]
        exact run_filter (j + 1) h
      · have e : plL (s :: ls) = plL ls := by unfold plL; rw [List.filter_cons_of_neg (by rw [hc]; simp)]
        rw [e]
        have hR := (ok_check h0 hc).2
        rw [hR] at h ⊢
        exact run_filter j h
    · rw [beq_eq_false_iff_ne.2 h0, cond_false] at h
      exact absurd h h0
theorem pl_same : ∀ {ls : List ByteArray} {R : Rc} {i : Int}, (runL R ls i).2.1 = 0 → plS ls = plL ls
  | [], _, _, _ => rfl
  | s :: ls, R, i, h => by
    unfold runL at h
    by_cases h0 : (lineF R s).1 = 0
    · rw [h0, beq_self_eq_true, cond_true] at h
      have ih := pl_same h
      unfold plS plL at ih ⊢
      cases hc : hdC s
      · rw [List.filter_cons_of_pos (by rw [af_false hc]; rfl), List.filter_cons_of_pos (by rw [hc]; rfl), ih]
      · rw [List.filter_cons_of_neg (by rw [(ok_check h0 hc).1]; simp), List.filter_cons_of_neg (by rw [hc]; simp), ih]
    · rw [beq_eq_false_iff_ne.2 h0, cond_false] at h
      exact absurd h h0
theorem ask_run {X : List ByteArray} (h : askC X = 0) : X.length ≤ 60 ∧ (runF X).2.1 = 0 := by
  refine ⟨ask_len h, ?_⟩
  by_cases h2 : (runF X).2.1 = 0
  · exact h2
  · by_cases h1 : 60 < X.length
    · rw [ask_full h1] at h; cases h
    · rw [ask_bad h1 h2] at h; cases h
theorem runF_zero {X : List ByteArray} (h : (runF X).2.1 = 0) : ∃ s ls a m, X = s :: ls ∧ startF s = some (a, m) ∧ (runL (startR a m) ls 1).2.1 = 0 := by
  cases X with
  | nil => cases h
  | cons s ls =>
    cases hs : startF s with
    | none => rw [runF_none hs] at h; cases h
    | some hm =>
      obtain ⟨a, m⟩ := hm
      rw [runF_some hs] at h
      exact ⟨s, ls, a, m, rfl, hs, h⟩
theorem plX_cons {s : ByteArray} {ls : List ByteArray} {a m : Int} (hs : startF s = some (a, m)) : plL (s :: ls) = s :: plL ls := by
  unfold plL; rw [List.filter_cons_of_pos (by rw [start_hd hs]; rfl)]
theorem plS_eq {X : List ByteArray} (h : askC X = 0) : plS X = plL X := by
  obtain ⟨s, ls, a, m, rfl, hs, hr⟩ := runF_zero (ask_run h).2
  rw [plX_cons hs]
  unfold plS
  rw [List.filter_cons_of_pos (by rw [af_false (start_hd hs)]; rfl)]
  exact congrArg _ (pl_same hr)
theorem plL_len (X : List ByteArray) : (plL X).length ≤ X.length := List.length_filter_le _ _
theorem plL_snoc (X : List ByteArray) (k : Nat) (hk : k < X.length) : plL (X.take (k + 1)) = plL (X.take k) ++ (bif hdC X[k] then [] else [X[k]]) := by
  unfold plL
  rw [List.take_add_one, List.getElem?_eq_getElem hk, List.filter_append]
  congr 1
  cases hc : hdC X[k] <;> simp [hc]
theorem plS_snoc (X : List ByteArray) (k : Nat) (hk : k < X.length) : plS (X.take (k + 1)) = plS (X.take k) ++ (bif afC X[k] then [] else [X[k]]) := by
  unfold plS
  rw [List.take_add_one, List.getElem?_eq_getElem hk, List.filter_append]
  congr 1
  cases hc : afC X[k] <;> simp [hc]
theorem hd_cut {s p : ByteArray} {ws : List ByteArray} (h : words s = p :: ws) : hdC s = (bl p == chkW) := by unfold hdC; rw [h]; rfl
set_option maxHeartbeats 2000000 in
theorem c_impl_isCheck (s : ByteArray) (w : World) (hs : s.size ≤ 10000000) :
    Calls Tryz.prog 101 #[.string s] w fun e w' => e = .returned (.bool (hdC s)) ∧ Below w.heap.size w w' := by
  go_enter Tryz.func101, Tryz.ntmps101
  go_wp2_with fail
  refine (c_impl_cut s _ (by omega)).mono ?_; rintro e w1 ⟨k, hk, hn, hh, hb1⟩
  obtain ⟨wd, tx, fd, rfl, hw⟩ : ∃ (wd tx : ByteArray) (fd : Bool), e = .returned (.tuple #[.string wd, .string tx, .bool fd]) ∧ Hid (hdC s = (wd.toList == [99, 104, 101, 99, 107])) := by
    rcases hh with ⟨hkl, hc, rfl⟩ | ⟨rfl, rfl⟩
    · exact ⟨_, _, _, rfl, by unfold Hid; rw [hd_cut (words_cut hkl hc hn), tl_bl]; rfl⟩
    · exact ⟨_, _, _, rfl, by unfold Hid; rw [hd_cut (words_end hn), tl_bl]; rfl⟩
  clear hh hn hk
  go_wp2
  go_ret
  exact ⟨by rw [hw.out]; rfl, hb1⟩
set_option maxHeartbeats 4000000 in
set_option maxRecDepth 100000 in
theorem c_impl_plain (X : List ByteArray) (v : Value) (w : World) (hr : RdRow 1 rowT w v X) (hX : X.length ≤ 1000) (hz : ∀ s ∈ X, s.size ≤ 2000000) :
    Calls Tryz.prog 61 #[v] w fun e w' => ∃ u, e = .returned u ∧ OwnT w.heap.size w'.heap.size w' u (plL X) ∧ Below w.heap.size w w' := by
  have HR := Lib.hid hr
  have HZ := Lib.hid hz
  obtain ⟨av, cv, rfl, hXl, -⟩ := hr
  clear hz
  go_enter Tryz.func61, Tryz.ntmps61
  go_wp2
  go_loopw [3, 9] (fun o i wr => ∃ k : Nat, k ≤ X.length ∧ i = .int .i64 k ∧ OwnT w.heap.size wr.heap.size wr o (plL (X.take k)) ∧ Below w.heap.size w wr) (fun _ i _ => X.length - (intOf i).toNat)
  case atStart => exact ⟨0, by omega, rfl, (OwnRow.made rfl rfl (Nat.le_refl _)).tight, by (repeat (first | (with_reducible assumption) | (with_reducible exact Below.refl _ _) | (with_reducible refine Below.setCell ?_ (by first | (simp; done) | (simp; omega)) _) | (with_reducible refine Below.al ?_ _) | (with_reducible refine Below.dr ?_) | (with_reducible refine Below.drN ?_ _) | (with_reducible refine Below.tr ?_ (by with_reducible assumption))))⟩
  case round =>
    obtain ⟨k, hk, rfl, ho, hb⟩ := hrel
    have hbs := hb.size
    by_cases hlt : k < X.length
    · obtain ⟨b1, o1, rfl, hx⟩ := rdT_at HR.out k hlt
      have y := keepc hb hx
      have hsk := HZ.out _ (List.getElem_mem hlt)
      have HSN := Lib.hid (plL_snoc X k hlt)
      have hlp : (plL (X.take k)).length < 1000000000 := by
        have h1 : (plL (X.take k)).length ≤ (X.take k).length := List.length_filter_le _ _
        rw [List.length_take] at h1; omega
      obtain ⟨s, Hs⟩ : ∃ s, X[k] = s := ⟨_, rfl⟩
      rw [Hs] at y hsk HSN
      clear Hs hx
      have hk0 : (0 : Int) ≤ (k : Int) := by omega
      have hk1 : (k : Int) < (X.length : Int) := by omega
      obtain ⟨L, HL⟩ : ∃ L, Hid (plL (X.take k) = L) := ⟨_, Lib.hid rfl⟩
      rw [HL.out] at ho HSN hlp
      go_wp2_with fail
      refine (c_impl_isCheck s _ (by omega)).mono ?_; rintro e w5 ⟨rfl, hb5⟩
      have ho5 := ho.below hb5
      have hs5 := hb5.size
      have hb5' := hb.tr hb5
      cases hc : hdC s
      · have HN : Hid (plL (X.take (k + 1)) = L ++ [s]) := by unfold Hid; rw [HSN.out, hc]; rfl
        go_wp2_with (at_builtin; refine push_row (row := rowT) rfl _ _ _ _ rfl Tryz.underlying29 (.string ⟨#[]⟩) 16 infoTx rfl (by decide) (by decide) rowT_len w.heap.size _ _ _ s #[.string s] _ rfl (rowT_ones _) rfl rfl (by exact ho5) hlp (by omega) ?_; intro v' w6 hown6 hbel6 hs6)
        go_roundw
        case rel => exact ⟨k + 1, by omega, by go_num, by rw [HN.out]; exact hown6, hbel6 _ hb5'⟩
        case measure => simp [intOf]; omega
      · have HN : Hid (plL (X.take (k + 1)) = L) := by unfold Hid; rw [HSN.out, hc]; simp
        go_wp2
        go_roundw
        case rel => exact ⟨k + 1, by omega, by go_num, by rw [HN.out]; exact ho5.tight, hb5'⟩
        case measure => simp [intOf]; omega
    · obtain rfl : k = X.length := by omega
      have HN : Hid (plL (X.take X.length) = plL X) := by unfold Hid; rw [List.take_length]
      rw [HN.out] at ho
      go_wp2
      go_ret
      exact ⟨_, rfl, ho, hb⟩
theorem af_of {s p : ByteArray} (hp : bl p = chkW) (h : ∀ x ws, words s ≠ p :: x :: ws) : afC s = false := by
  unfold afC
  rcases hw : words s with _ | ⟨a, _ | ⟨b, ws⟩⟩
  · rfl
  · rfl
  · show (bl a == chkW) = false
    rw [beq_eq_false_iff_ne]
    intro e
    exact h b ws (by rw [hw, bl_inj (e.trans hp.symm)])
theorem af_yes {s t p : ByteArray} (hp : bl p = chkW) (h : words s = p :: words t) : afC s = true := by
  unfold afC
  rw [h]
  rcases hw : words t with _ | ⟨a, ws⟩
  · exact absurd hw (words_ne t)
  · show (bl p == chkW) = true
    rw [hp]; rfl
set_option maxHeartbeats 4000000 in
set_option maxRecDepth 100000 in
theorem c_spec_l27Plain (X : List ByteArray) (v : Value) (w : World) (hr : RdRow 1 rowT w v X) (hX : X.length ≤ 1000) (hz : ∀ s ∈ X, s.size ≤ 2000000) :
    Calls Tryz.prog 63 #[v] w fun e w' => ∃ u, e = .returned u ∧ OwnT w.heap.size w'.heap.size w' u (plS X) ∧ Below w.heap.size w w' := by
  have HR := Lib.hid hr
  have HZ := Lib.hid hz
  obtain ⟨av, cv, rfl, hXl, -⟩ := hr
  clear hz
  go_enter Tryz.func63, Tryz.ntmps63
  go_wp2_with fail
  go_loopw [3, 4] (fun o i wr => ∃ k : Nat, k ≤ X.length ∧ i = .int .i64 k ∧ OwnT w.heap.size wr.heap.size wr o (plS (X.take k)) ∧ Below w.heap.size w wr) (fun _ i _ => X.length - (intOf i).toNat)
  case atStart => exact ⟨0, by omega, rfl, (OwnRow.made rfl rfl (Nat.le_refl _)).tight, by (repeat (first | (with_reducible assumption) | (with_reducible exact Below.refl _ _) | (with_reducible refine Below.setCell ?_ (by first | (simp; done) | (simp; omega)) _) | (with_reducible refine Below.al ?_ _) | (with_reducible refine Below.dr ?_) | (with_reducible refine Below.drN ?_ _) | (with_reducible refine Below.tr ?_ (by with_reducible assumption))))⟩
  case round =>
    obtain ⟨k, hk, rfl, ho, hb⟩ := hrel
    have hbs := hb.size
    by_cases hlt : k < X.length
    · obtain ⟨b1, o1, rfl, hx⟩ := rdT_at HR.out k hlt
      have y := keepc hb hx
      have hsk := HZ.out _ (List.getElem_mem hlt)
      have HSN := Lib.hid (plS_snoc X k hlt)
      have hlp : (plS (X.take k)).length < 1000000000 := by
        have h1 : (plS (X.take k)).length ≤ (X.take k).length := List.length_filter_le _ _
        rw [List.length_take] at h1; omega
      obtain ⟨s, Hs⟩ : ∃ s, X[k] = s := ⟨_, rfl⟩
      rw [Hs] at y hsk HSN
      clear Hs hx
      have hk0 : (0 : Int) ≤ (k : Int) := by omega
      have hk1 : (k : Int) < (X.length : Int) := by omega
      obtain ⟨L, HL⟩ : ∃ L, Hid (plS (X.take k) = L) := ⟨_, Lib.hid rfl⟩
      rw [HL.out] at ho HSN hlp
      go_wp2_with fail
      have HAY := Lib.hid (fun t h => af_yes (s := s) (t := t) (p := ⟨#[99, 104, 101, 99, 107]⟩) rfl h)
      have HAN := Lib.hid (fun h => af_of (s := s) (p := ⟨#[99, 104, 101, 99, 107]⟩) rfl h)
      refine (c_spec_l27After s ⟨#[99, 104, 101, 99, 107]⟩ _ (by omega) (by decide) (by decide)).mono ?_; rintro e w5 ⟨t, b, rfl, hy, hn, rfl⟩
      have hbb : b = afC s := by
        cases b
        · exact (HAN.out (hn rfl).2).symm
        · exact (HAY.out t (hy rfl).1).symm
      clear hy hn
      subst hbb
      have hb5 := Below.refl wr.heap.size wr
      have ho5 := ho.below hb5
      have hs5 := hb5.size
      have hb5' := hb.tr hb5
      cases hc : afC s
      · have HN : Hid (plS (X.take (k + 1)) = L ++ [s]) := by unfold Hid; rw [HSN.out, hc]; rfl
        go_wp2_with (at_builtin; refine push_row (row := rowT) rfl _ _ _ _ rfl Tryz.underlying29 (.string ⟨#[]⟩) 16 infoTx rfl (by decide) (by decide) rowT_len w.heap.size _ _ _ s #[.string s] _ rfl (rowT_ones _) rfl rfl (by exact ho5) hlp (by omega) ?_; intro v' w6 hown6 hbel6 hs6)
        go_roundw
        case rel => exact ⟨k + 1, by omega, by go_num, by rw [HN.out]; exact hown6, hbel6 _ hb5'⟩
        case measure => simp [intOf]; omega
      · have HN : Hid (plS (X.take (k + 1)) = L) := by unfold Hid; rw [HSN.out, hc]; simp
        go_wp2
        go_roundw
        case rel => exact ⟨k + 1, by omega, by go_num, by rw [HN.out]; exact ho5.tight, hb5'⟩
        case measure => simp [intOf]; omega
    · obtain rfl : k = X.length := by omega
      have HN : Hid (plS (X.take X.length) = plS X) := by unfold Hid; rw [List.take_length]
      rw [HN.out] at ho
      go_wp2
      go_ret
      exact ⟨_, rfl, ho, hb⟩
theorem plain_spec (X : List ByteArray) (v : Value) (w : World) (hr : RdTC w v X) (hX : X.length ≤ 1000) (hz : ∀ s ∈ X, s.size ≤ 2000000) (h0 : askC X = 0) : Calls Tryz.prog 63 #[v] w fun e w' => ∃ u, e = .returned u ∧ OwnT w.heap.size w'.heap.size w' u (plL X) ∧ Below w.heap.size w w' := by
  have h := c_spec_l27Plain X v w hr.1 hX hz
  rw [plS_eq h0] at h; exact h
theorem plain_impl (X : List ByteArray) (v : Value) (w : World) (hr : RdTC w v X) (hX : X.length ≤ 1000) (hz : ∀ s ∈ X, s.size ≤ 2000000) (h0 : askC X = 0) : Calls Tryz.prog 61 #[v] w fun e w' => ∃ u, e = .returned u ∧ OwnT w.heap.size w'.heap.size w' u (plL X) ∧ Below w.heap.size w w' := c_impl_plain X v w hr.1 hX hz
end Go.Proofs.YtioemkdapoombaaGreatDoor
