/- Walks: sort.stable_func over events, of any number. -/
import Derived.Test.YtgcmnpimkfmccaaSrtM
namespace Go.Proofs.Ytgcmnpimkfmccaa
open Go.ChangeShapes Go.WideShapes Go.ChangeAt Go.RowKit Go.Sort
set_option linter.unusedSimpArgs false
set_option linter.unusedVariables false
/-- from place a on the row consists of sorted runs of bs elements; the last one may be shorter -/
inductive Runs (bs n : Nat) (d : Array Ev) : Nat → Prop
  | last (a : Nat) (h1 : a ≤ n) (h2 : n ≤ a + bs) (h3 : SortedIn ltE a n d) : Runs bs n d a
  | step (a : Nat) (h1 : a + bs ≤ n) (h2 : SortedIn ltE a (a + bs) d) (h3 : Runs bs n d (a + bs)) : Runs bs n d a
theorem sorted_agree {a b : Nat} {d d' : Array Ev} (h : SortedIn ltE a b d) (e : ∀ x, a ≤ x → x < b → d'[x]! = d[x]!) : SortedIn ltE a b d' := fun i j hi hij hj => by
  rw [e i hi (by omega), e j (by omega) hj]; exact h i j hi hij hj
theorem Runs.keep {bs n a : Nat} {d d' : Array Ev} (h : Runs bs n d a) (e : ∀ x, a ≤ x → d'[x]! = d[x]!) : Runs bs n d' a := by
  induction h with
  | last a h1 h2 h3 => exact .last a h1 h2 (sorted_agree h3 (fun x hx _ => e x hx))
  | step a h1 h2 h3 ih => exact .step a h1 (sorted_agree h2 (fun x hx _ => e x hx)) (ih (fun x hx => e x (by omega)))
/-- the runs ahead of a are laid -/
def Laid (bs n a : Nat) (d : Array Ev) : Prop := ∀ d' : Array Ev, (∀ x, x < a → d'[x]! = d[x]!) → Runs bs n d' a → Runs bs n d' 0
theorem Laid.zero (bs n : Nat) (d : Array Ev) : Laid bs n 0 d := fun _ _ h => h
theorem Laid.step {bs n a b : Nat} {d d1 : Array Ev} (h : Laid bs n a d) (hb1 : b ≤ a + bs) (hb2 : a + bs ≤ b) (hbn : b ≤ n) (p : PermIn a b d d1) (s : SortedIn ltE a b d1) : Laid bs n b d1 := fun d' e hr => by
  have hbe : b = a + bs := by omega
  subst hbe
  exact h d' (fun x hx => by rw [e x (by omega), p.2.1 x (Or.inl hx)]) (.step a hbn (sorted_agree s (fun x _ hx => e x hx)) hr)
theorem Laid.done {bs n a : Nat} {d d1 : Array Ev} (h : Laid bs n a d) (han : a ≤ n) (hn : n ≤ a + bs) (p : PermIn a n d d1) (s : SortedIn ltE a n d1) : Runs bs n d1 0 :=
  h d1 (fun x hx => p.2.1 x (Or.inl hx)) (.last a han hn s)
theorem Runs.two {bs n a : Nat} {d : Array Ev} (h : Runs bs n d a) (h0 : 0 < bs) (hn : a + 2 * bs ≤ n) : SortedIn ltE a (a + bs) d ∧ SortedIn ltE (a + bs) (a + 2 * bs) d ∧ Runs bs n d (a + 2 * bs) := by
  cases h with
  | last _ h1 h2 h3 => omega
  | step _ h1 h2 h3 =>
    cases h3 with
    | last _ k1 k2 k3 =>
      have e : a + 2 * bs = n := by omega
      exact ⟨h2, by rw [e]; exact k3, .last _ (by omega) (by omega) (fun i j hi hij hj => by omega)⟩
    | step _ k1 k2 k3 =>
      have e : a + bs + bs = a + 2 * bs := by omega
      rw [e] at k2 k3
      exact ⟨h2, k2, k3⟩
theorem Runs.tail2 {bs n a : Nat} {d : Array Ev} (h : Runs bs n d a) (h0 : 0 < bs) (hn : n < a + 2 * bs) (hm : a + bs < n) : SortedIn ltE a (a + bs) d ∧ SortedIn ltE (a + bs) n d := by
  cases h with
  | last _ h1 h2 h3 => omega
  | step _ h1 h2 h3 =>
    cases h3 with
    | last _ k1 k2 k3 => exact ⟨h2, k3⟩
    | step _ k1 k2 k3 => omega
theorem Runs.tail1 {bs n a : Nat} {d : Array Ev} (h : Runs bs n d a) (hm : n ≤ a + bs) : SortedIn ltE a n d := by
  cases h with
  | last _ h1 h2 h3 => exact h3
  | step _ h1 h2 h3 => exact sorted_part h2 (Nat.le_refl _) hm
theorem Runs.le {bs n a : Nat} {d : Array Ev} (h : Runs bs n d a) : a ≤ n := by
  cases h with
  | last _ h1 h2 h3 => exact h1
  | step _ h1 h2 h3 => omega
set_option maxHeartbeats 16000000 in
set_option maxRecDepth 100000 in
theorem c_stable (gl sf g n : Nat) (lb sb : Array Value) (eg : ∀ args w, (callFunc gl args).run Try.prog w = .ok (.enter gl args) w) (d : Array Ev) (w : World) (hls : LessE Try.prog gl lb w g n) (hsw : SwapE Try.prog sf sb g n) (hsz : n ≤ 1000000) (hdn : d.size = n) (hH : HoE w g d) (hg : g < w.heap.size) :
    Calls Try.prog 100 #[.agg #[.func (.func gl) #[] lb, .func (.func sf) #[] sb], .int .i64 n] w fun e w' => e = .returned (.tuple #[]) ∧ ∃ d' : Array Ev, HoE w' g d' ∧ UpdS (fun x => x = g) w w' ∧ PermIn 0 n d d' ∧ SortedIn ltE 0 n d' := by
  obtain ⟨W1, hW1⟩ : ∃ W1, W1 = w.alloc (.cells #[.func (.func gl) #[] lb, .func (.func sf) #[] sb] 133) := ⟨_, rfl⟩
  have HF : Hid (FnBox W1 w.heap.size gl sf lb sb) := Lib.hid (by rw [hW1]; exact fnBox_new w _ gl sf lb sb)
  have HU1 : Hid (UpdS (fun x => x = g) w W1) := Lib.hid (by rw [hW1]; exact updS_new w _)
  have H1 : Hid (HoE W1 g d) := Lib.hid (by rw [hW1]; exact hH.below ((Below.refl _ _).al _))
  have hgn : w.heap.size ≠ g := by omega
  have hgW : g < W1.heap.size := by rw [hW1]; simp; omega
  have HSW := Lib.hid hsw
  have HLS := Lib.hid hls
  clear hH hsw hls
  go_enter Try.func100, Try.ntmps100
  go_wp2_with fail
  rw [← hW1]
  clear hW1
  obtain ⟨bx, hbx⟩ : ∃ bx, w.heap.size = bx := ⟨_, rfl⟩
  rw [hbx] at HF hgn ⊢
  clear hbx
  go_loopw [5, 6] (fun va vb wr => ∃ (a : Nat) (dk : Array Ev), va = .int .i64 a ∧ vb = .int .i64 (a + 20 : Nat) ∧ a ≤ n ∧ dk.size = n ∧ HoE wr g dk ∧ UpdS (fun x => x = g) W1 wr ∧ Hid (Laid 20 n a dk ∧ PermIn 0 n d dk)) (fun va _ _ => n - (intOf va).toNat)
  case atStart => exact ⟨0, d, rfl, rfl, Nat.zero_le _, hdn, H1.out, UpdS.refl _ _, Laid.zero _ _ _, permIn_refl _ _ _⟩
  case round =>
    clear H1
    obtain ⟨a, dk, rfl, rfl, han, hds, hH, U, HI⟩ := hrel
    obtain ⟨c0, c1⟩ := HF.out.upd U hgn
    have hgr : g < wr.heap.size := Nat.lt_of_lt_of_le hgW U.size
    have HSD : Hid (SwapE Try.prog sf sb g dk.size) := by rw [hds]; exact HSW
    have HLD : Hid (LessE Try.prog gl lb w g dk.size) := by rw [hds]; exact HLS
    by_cases hle : a + 20 ≤ n
    · have hleI : ((a + 20 : Nat) : Int) ≤ (n : Int) := by omega
      have hs := c_insertionSort gl sf g lb sb eg a (a + 20) dk w wr HLD.out (updS_tr HU1.out U) HSD.out hH hgr (by omega) (by omega) (by omega)
      have hp := insertionSort_holds swoE dk a (a + 20) (by omega) (by omega)
      have hsz2 : (insertionSort ltE dk a (a + 20)).size = n := hp.1.1.trans hds
      have HX : Hid (Laid 20 n (a + 20) (insertionSort ltE dk a (a + 20)) ∧ PermIn 0 n d (insertionSort ltE dk a (a + 20))) := ⟨HI.out.1.step (Nat.le_refl _) (Nat.le_refl _) hle hp.1 hp.2, permIn_trans _ _ _ _ _ HI.out.2 (permIn_mono _ _ _ _ _ _ (Nat.zero_le _) hle (by omega) hp.1)⟩
      have HU := Lib.hid U
      clear hp hH U HSD HLD
      generalize insertionSort ltE dk a (a + 20) = dz at hs HX hsz2
      go_wp2_with fail
      refine hs.mono ?_; rintro e w2 ⟨rfl, hH2, U2⟩
      have HZ := Lib.hid (And.intro hH2 (updS_tr HU.out U2))
      clear hH2 U2 hs
      go_wp2
      exact ⟨⟨a + 20, dz, by go_num, by go_num, hle, hsz2, HZ.out.1, HZ.out.2, HX⟩, by simp [intOf]; omega⟩
    · have hleI : ¬ ((a + 20 : Nat) : Int) ≤ (n : Int) := by omega
      have hs := c_insertionSort gl sf g lb sb eg a n dk w wr HLD.out (updS_tr HU1.out U) HSD.out hH hgr han (by omega) (by omega)
      have hp := insertionSort_holds swoE dk a n han (by omega)
      have hsz2 : (insertionSort ltE dk a n).size = n := hp.1.1.trans hds
      have HX : Hid (Runs 20 n (insertionSort ltE dk a n) 0 ∧ PermIn 0 n d (insertionSort ltE dk a n)) := ⟨HI.out.1.done han (by omega) hp.1 hp.2, permIn_trans _ _ _ _ _ HI.out.2 (permIn_mono _ _ _ _ _ _ (Nat.zero_le _) (Nat.le_refl _) (by omega) hp.1)⟩
      have HU := Lib.hid U
      clear hp hH U HSD HLD HI
      generalize insertionSort ltE dk a n = dz at hs HX hsz2
      go_wp2_with fail
      refine hs.mono ?_; rintro e w2 ⟨rfl, hH2, U2⟩
      have HZ := Lib.hid (And.intro hH2 (updS_tr HU.out U2))
      clear hH2 U2 hs hle hleI hds HU c0 c1 hgr
      go_wp2_with fail
      go_loopw [4] (fun vbs wr => ∃ (bs : Nat) (dk : Array Ev), vbs = .int .i64 bs ∧ 0 < bs ∧ bs ≤ 2 * n + 20 ∧ dk.size = n ∧ HoE wr g dk ∧ UpdS (fun x => x = g) W1 wr ∧ Hid (Runs bs n dk 0 ∧ PermIn 0 n d dk)) (fun vbs _ => 2 * n + 21 - (intOf vbs).toNat)
      case atStart => exact ⟨20, dz, rfl, by omega, by omega, hsz2, HZ.out.1, HZ.out.2, HX⟩
      case round =>
        clear HZ HX hsz2
        obtain ⟨bs, dk, rfl, hb0, hbs, hds, hH, U, HI⟩ := hrel
        by_cases hlt : bs < n
        · have hltI : (bs : Int) < (n : Int) := by omega
          have HS : Hid (HoE wr g dk ∧ UpdS (fun x => x = g) W1 wr) := ⟨hH, U⟩
          obtain ⟨wo, rfl⟩ : ∃ wo : World, wo = wr := ⟨_, rfl⟩
          clear hH U
          go_wp2_with fail
          go_loopw [5, 6] (fun va vb wr2 => ∃ (a : Nat) (dj : Array Ev), va = .int .i64 a ∧ vb = .int .i64 (a + 2 * bs : Nat) ∧ a ≤ n ∧ dj.size = n ∧ HoE wr2 g dj ∧ UpdS (fun x => x = g) W1 wr2 ∧ Hid (Laid (2 * bs) n a dj ∧ Runs bs n dj a ∧ PermIn 0 n d dj)) (fun va _ _ => n - (intOf va).toNat)
          case atStart => exact ⟨0, dk, rfl, by go_num, Nat.zero_le _, hds, HS.out.1, HS.out.2, Laid.zero _ _ _, HI.out⟩
          case round =>
            clear HS HI hds
            obtain ⟨a, dj, rfl, rfl, han, hds, hH, U, HI⟩ := hrel
            obtain ⟨c0, c1⟩ := HF.out.upd U hgn
            have hgr : g < wr.heap.size := Nat.lt_of_lt_of_le hgW U.size
            by_cases hle : a + 2 * bs ≤ n
            · have hleI : ((a + 2 * bs : Nat) : Int) ≤ (n : Int) := by omega
              obtain ⟨s1, s2, s3⟩ := HI.out.2.1.two hb0 hle
              have hs := c_symMerge gl sf g n lb sb eg w HLS.out HSW.out hsz n a (a + bs) (a + 2 * bs) dj wr (by omega) (by omega) (by omega) (by omega) hds (updS_tr HU1.out U) hH hgr s1 s2
              have HR := Lib.hid s3
              have HU := Lib.hid U
              rw [show ((a + bs : Nat) : Int) = (a : Int) + (bs : Int) by omega] at hs
              clear s1 s2 s3 hH U
              go_wp2_with fail
              refine hs.mono ?_; rintro e w3 ⟨rfl, d3, hH3, U3, p3, s3⟩
              have hsz3 : d3.size = n := p3.1.trans hds
              have HX : Hid (Laid (2 * bs) n (a + 2 * bs) d3 ∧ Runs bs n d3 (a + 2 * bs) ∧ PermIn 0 n d d3) := ⟨HI.out.1.step (Nat.le_refl _) (Nat.le_refl _) hle p3 s3, HR.out.keep (fun x hx => p3.2.1 x (Or.inr hx)), permIn_trans _ _ _ _ _ HI.out.2.2 (permIn_mono _ _ _ _ _ _ (Nat.zero_le _) hle (by omega) p3)⟩
              have HZ := Lib.hid (And.intro hH3 (updS_tr HU.out U3))
              clear hH3 U3 hs p3 s3 HR
              go_wp2
              exact ⟨⟨a + 2 * bs, d3, by go_num, by go_num, hle, hsz3, HZ.out.1, HZ.out.2, HX⟩, by simp [intOf]; omega⟩
            · have hleI : ¬ ((a + 2 * bs : Nat) : Int) ≤ (n : Int) := by omega
              by_cases hm : a + bs < n
              · have hmI : (a : Int) + (bs : Int) < (n : Int) := by omega
                obtain ⟨s1, s2⟩ := HI.out.2.1.tail2 hb0 (by omega) hm
                have hs := c_symMerge gl sf g n lb sb eg w HLS.out HSW.out hsz n a (a + bs) n dj wr (by omega) (by omega) (by omega) (by omega) hds (updS_tr HU1.out U) hH hgr s1 s2
                have HU := Lib.hid U
                rw [show ((a + bs : Nat) : Int) = (a : Int) + (bs : Int) by omega] at hs
                clear s1 s2 hH U
                go_wp2_with fail
                refine hs.mono ?_; rintro e w3 ⟨rfl, d3, hH3, U3, p3, s3⟩
                have hsz3 : d3.size = n := p3.1.trans hds
                have HX : Hid (Runs (2 * bs) n d3 0 ∧ PermIn 0 n d d3) := ⟨HI.out.1.done han (by omega) p3 s3, permIn_trans _ _ _ _ _ HI.out.2.2 (permIn_mono _ _ _ _ _ _ (Nat.zero_le _) (Nat.le_refl _) (by omega) p3)⟩
                have HZ := Lib.hid (And.intro hH3 (updS_tr HU.out U3))
                clear hH3 U3 hs p3 s3
                go_wp2
                exact ⟨⟨2 * bs, d3, by go_num, by omega, by omega, hsz3, HZ.out.1, HZ.out.2, HX⟩, by simp [intOf]; omega⟩
              · have hmI : ¬ (a : Int) + (bs : Int) < (n : Int) := by omega
                have HX : Hid (Runs (2 * bs) n dj 0 ∧ PermIn 0 n d dj) := ⟨HI.out.1.done han (by omega) (permIn_refl _ _ _) (HI.out.2.1.tail1 (by omega)), HI.out.2.2⟩
                have HZ := Lib.hid (And.intro hH U)
                clear hH U
                go_wp2
                exact ⟨⟨2 * bs, dj, by go_num, by omega, by omega, hds, HZ.out.1, HZ.out.2, HX⟩, by simp [intOf]; omega⟩
        · have hltI : ¬ (bs : Int) < (n : Int) := by omega
          have HX : Hid (SortedIn ltE 0 n dk) := HI.out.1.tail1 (by omega)
          go_wp2
          go_end0
          exact ⟨rfl, dk, hH, updS_tr HU1.out U, HI.out.2, HX.out⟩
end Go.Proofs.Ytgcmnpimkfmccaa
