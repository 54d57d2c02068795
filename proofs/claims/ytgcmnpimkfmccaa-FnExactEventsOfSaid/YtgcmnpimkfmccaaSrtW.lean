/- Walks: sort.SliceStable over events, of any number, with a less that may lay blocks. -/
import Derived.Test.YtgcmnpimkfmccaaPlainEv
import Derived.Test.YtgcmnpimkfmccaaMemW
import Derived.Test.YtgcmnpimkfmccaaKeep
import Derived.Shelf.GgSortFunc.SmallK
namespace Go.Proofs.Ytgcmnpimkfmccaa
open Go.ChangeShapes Go.WideShapes Go.ChangeAt Go.RowKit Go.Sort
set_option linter.unusedSimpArgs false
set_option linter.unusedVariables false
def rowE (e : Ev) : List Value := [.int .i64 e.tick, .bool e.thr, .int .i64 e.hand, .int .i64 e.prop]
theorem rowE_len : ∀ x, (rowE x).length = 4 := fun _ => rfl
theorem rowE_one : ∀ x, ∀ v ∈ rowE x, v.oneCell' = true := fun x v hv => by
  simp only [rowE, List.mem_cons, List.not_mem_nil, or_false] at hv
  rcases hv with rfl | rfl | rfl | rfl <;> rfl
abbrev HoE (W : World) (g : Nat) (d : Array Ev) : Prop := HoldsK rowE 4 W g 0 d
theorem setCells_upd {D : Nat → Prop} {g : Nat} (hD : D g) : ∀ (vs : List Value) (o : Nat) (w : World), UpdS D w (w.setCells g o vs)
  | [], _, w => UpdS.refl _ _
  | v :: r, o, w => (UpdS.of_set (D := D) v hD).trans (setCells_upd hD r (o + 1) _) (fun _ _ h => h)
theorem HoE.below {W W' : World} {g : Nat} {d : Array Ev} (h : HoE W g d) (hb : Below W.heap.size W W') : HoE W' g d := fun j hj => by
  obtain ⟨h1, h2⟩ := h j hj
  exact ⟨keepc hb h1, frozenc hb h1 h2⟩
theorem HoE.swap {W : World} {g : Nat} {d : Array Ev} (h : HoE W g d) {i j : Nat} (hi : i < d.size) (hj : j < d.size) : HoE ((W.setCells g (0 + i * 4) (rowE d[j]!)).setCells g (0 + j * 4) (rowE d[i]!)) g (swp d i j) := by
  have hself : putRow id W g 0 (flatK rowE 4 d) = W := putRowK_self rowE 4 W g 0 d h
  have e : (W.setCells g (0 + i * 4) (rowE d[j]!)).setCells g (0 + j * 4) (rowE d[i]!) = putRow id W g 0 (flatK rowE 4 (swp d i j)) := by
    conv => lhs; rw [← hself]
    rw [setCells_putRow _ _ _ _ _ _ (by rw [rowE_len, size_flatK]; omega), setCells_putRow _ _ _ _ _ _ (by rw [rowE_len, size_setMany, size_flatK]; omega), setMany_swp rowE 4 rowE_len d i j hi hj]
  rw [e]
  exact holds_putRow id W g 0 _ _ h (by rw [size_flatK, size_flatK, size_swp])
/-- what less has to give: in every world that the sort passes through -/
def LessE (P : Program) (gl : Nat) (lb : Array Value) (w0 : World) (g n : Nat) : Prop :=
  ∀ (W : World) (d : Array Ev), UpdS (fun b => b = g) w0 W → HoE W g d → d.size = n → ∀ i j : Nat, i < n → j < n →
    Calls P gl (#[.int .i64 i, .int .i64 j] ++ lb) W fun e w' => e = .returned (.bool (ltE d[i]! d[j]!)) ∧ Below W.heap.size W w'
def SwapE (P : Program) (sf : Nat) (sb : Array Value) (g n : Nat) : Prop := 2 ≤ n → SwapSwapsK P sf sb rowE 4 g 0 n
theorem updS_new {g : Nat} (w : World) (o : Obj) : UpdS (fun b => b = g) w (w.alloc o) := UpdS.of_below ((Below.refl _ _).al o)
theorem updS_tr {g : Nat} {a b c : World} (h : UpdS (fun b => b = g) a b) (k : UpdS (fun b => b = g) b c) : UpdS (fun b => b = g) a c := h.trans k (fun _ _ d => d)
/-- the two function values in a block of their own -/
def FnBox (w : World) (b gl sf : Nat) (lb sb : Array Value) : Prop := w.cell? ⟨b, 0, none⟩ = some (.func (.func gl) #[] lb) ∧ w.cell? ⟨b, 1, none⟩ = some (.func (.func sf) #[] sb)
theorem FnBox.upd {a w : World} {b g gl sf : Nat} {lb sb : Array Value} (h : FnBox a b gl sf lb sb) (u : UpdS (fun x => x = g) a w) (hn : b ≠ g) : FnBox w b gl sf lb sb := ⟨u.cell h.1 hn, u.cell h.2 hn⟩
theorem fnBox_new (w : World) (T : TypeId) (gl sf : Nat) (lb sb : Array Value) : FnBox (w.alloc (.cells #[.func (.func gl) #[] lb, .func (.func sf) #[] sb] T)) w.heap.size gl sf lb sb :=
  ⟨World.cell?_alloc_at _ _ _ _ rfl, World.cell?_alloc_at _ _ _ _ rfl⟩
set_option maxHeartbeats 4000000 in
set_option maxRecDepth 100000 in
theorem c_swapRange (gl sf g : Nat) (lb sb : Array Value) (a b n : Nat) (d : Array Ev) (w : World) (hsw : SwapE Try.prog sf sb g d.size) (hH : HoE w g d) (hg : g < w.heap.size) (hab : a + n ≤ b) (hb : b + n ≤ d.size) (hsz : d.size ≤ 1000000) :
    Calls Try.prog 144 #[.agg #[.func (.func gl) #[] lb, .func (.func sf) #[] sb], .int .i64 a, .int .i64 b, .int .i64 n] w fun e w' => e = .returned (.tuple #[]) ∧ ∃ d' : Array Ev, HoE w' g d' ∧ UpdS (fun x => x = g) w w' ∧ SwR a b n d d' ∧ PermIn a (b + n) d d' := by
  obtain ⟨W1, hW1⟩ : ∃ W1, W1 = w.alloc (.cells #[.func (.func gl) #[] lb, .func (.func sf) #[] sb] 133) := ⟨_, rfl⟩
  have HF : Hid (FnBox W1 w.heap.size gl sf lb sb) := Lib.hid (by rw [hW1]; exact fnBox_new w _ gl sf lb sb)
  have HU1 : Hid (UpdS (fun x => x = g) w W1) := Lib.hid (by rw [hW1]; exact updS_new w _)
  have H1 : HoE W1 g d := by rw [hW1]; exact hH.below ((Below.refl _ _).al _)
  have hgn : w.heap.size ≠ g := by omega
  have HSW := Lib.hid hsw
  have HP0 := Lib.hid (permIn_refl d a (b + n))
  clear hH hsw
  go_enter Try.func144, Try.ntmps144
  go_wp2_with fail
  rw [← hW1]
  clear hW1
  obtain ⟨bx, hbx⟩ : ∃ bx, w.heap.size = bx := ⟨_, rfl⟩
  rw [hbx] at HF hgn ⊢
  clear hbx
  go_loopw [8] (fun i wr => ∃ (k : Nat) (dk : Array Ev), k ≤ n ∧ i = .int .i64 k ∧ dk.size = d.size ∧ HoE wr g dk ∧ UpdS (fun x => x = g) W1 wr ∧ Hid (SwR a b k d dk) ∧ Hid (PermIn a (b + n) d dk)) (fun i _ => n - (intOf i).toNat)
  case atStart => exact ⟨0, d, Nat.zero_le _, rfl, rfl, H1, UpdS.refl _ _, SwR.zero a b d, HP0.out⟩
  case round =>
    clear H1
    obtain ⟨k, dk, hk, rfl, hds, hH, U, HSR, HPI⟩ := hrel
    obtain ⟨c0, c1⟩ := HF.out.upd U hgn
    by_cases hlt : k < n
    · have hs := HSW.out (by omega) wr dk hH hds (a + k) (b + k) (by omega) (by omega)
      have HH2 := Lib.hid (hH.swap (i := a + k) (j := b + k) (by omega) (by omega))
      have HU2 := Lib.hid (updS_tr U (updS_tr (setCells_upd (D := fun x => x = g) rfl (rowE dk[b + k]!) (0 + (a + k) * 4) wr) (setCells_upd (D := fun x => x = g) rfl (rowE dk[a + k]!) (0 + (b + k) * 4) _)))
      have HSR2 := Lib.hid (HSR.out.step (by omega) (by omega))
      have HPI2 := Lib.hid (permIn_trans _ _ _ _ _ HPI.out (swp_permIn dk a (b + n) (a + k) (b + k) (by omega) (by omega) (by omega) (by omega) (by omega)))
      have hsz2 := size_swp dk (a + k) (b + k)
      have h1 : ((a + k : Nat) : Int) = (a : Int) + (k : Int) := by omega
      have h2 : ((b + k : Nat) : Int) = (b : Int) + (k : Int) := by omega
      rw [h1, h2] at hs
      clear hH U HSR HPI
      obtain ⟨wz, hwz⟩ : ∃ wz, (wr.setCells g (0 + (a + k) * 4) (rowE dk[b + k]!)).setCells g (0 + (b + k) * 4) (rowE dk[a + k]!) = wz := ⟨_, rfl⟩
      rw [hwz] at hs HH2 HU2
      clear hwz
      obtain ⟨dz, hdz⟩ : ∃ dz, swp dk (a + k) (b + k) = dz := ⟨_, rfl⟩
      rw [hdz] at HH2 HSR2 HPI2 hsz2
      clear hdz h1 h2
      go_wp2
      exact ⟨⟨k + 1, dz, by omega, by go_num, hsz2.trans hds, HH2.out, HU2.out, HSR2, HPI2⟩, by simp [intOf]; omega⟩
    · have hke : k = n := by omega
      subst hke
      go_wp2
      go_end0
      exact ⟨rfl, dk, hH, updS_tr HU1.out U, HSR.out, HPI.out⟩
set_option maxHeartbeats 4000000 in
set_option maxRecDepth 100000 in
theorem c_rotate (gl sf g : Nat) (lb sb : Array Value) (a m b : Nat) (d : Array Ev) (w : World) (hsw : SwapE Try.prog sf sb g d.size) (hH : HoE w g d) (hg : g < w.heap.size) (ham : a < m) (hmb : m < b) (hb : b ≤ d.size) (hsz : d.size ≤ 1000000) :
    Calls Try.prog 139 #[.agg #[.func (.func gl) #[] lb, .func (.func sf) #[] sb], .int .i64 a, .int .i64 m, .int .i64 b] w fun e w' => e = .returned (.tuple #[]) ∧ ∃ d' : Array Ev, HoE w' g d' ∧ UpdS (fun x => x = g) w w' ∧ Rot a m b d d' ∧ PermIn a b d d' := by
  obtain ⟨W1, hW1⟩ : ∃ W1, W1 = w.alloc (.cells #[.func (.func gl) #[] lb, .func (.func sf) #[] sb] 133) := ⟨_, rfl⟩
  have HF : Hid (FnBox W1 w.heap.size gl sf lb sb) := Lib.hid (by rw [hW1]; exact fnBox_new w _ gl sf lb sb)
  have HU1 : Hid (UpdS (fun x => x = g) w W1) := Lib.hid (by rw [hW1]; exact updS_new w _)
  have H1 : HoE W1 g d := by rw [hW1]; exact hH.below ((Below.refl _ _).al _)
  have hgn : w.heap.size ≠ g := by omega
  have hgW : g < W1.heap.size := by rw [hW1]; simp; omega
  have HSW := Lib.hid hsw
  have HP0 := Lib.hid (permIn_refl d a b)
  have HR0 := Lib.hid (RotW.start (a := a) (m := m) (b := b) (d := d) (by omega) (by omega))
  clear hH hsw
  go_enter Try.func139, Try.ntmps139
  go_wp2_with fail
  rw [← hW1]
  clear hW1
  obtain ⟨bx, hbx⟩ : ∃ bx, w.heap.size = bx := ⟨_, rfl⟩
  rw [hbx] at HF hgn ⊢
  clear hbx
  go_loopw [8, 9] (fun vi vj wr => ∃ (i j : Nat) (dk : Array Ev), 0 < i ∧ 0 < j ∧ i ≤ m - a ∧ j ≤ b - m ∧ vi = .int .i64 i ∧ vj = .int .i64 j ∧ dk.size = d.size ∧ HoE wr g dk ∧ UpdS (fun x => x = g) W1 wr ∧ Hid (RotW a m b i j d dk) ∧ Hid (PermIn a b d dk)) (fun vi vj _ => (intOf vi).toNat + (intOf vj).toNat)
  case atStart => exact ⟨m - a, b - m, d, by omega, by omega, Nat.le_refl _, Nat.le_refl _, by congr 1; omega, by congr 1; omega, rfl, H1, UpdS.refl _ _, HR0.out, HP0.out⟩
  case round =>
    clear H1
    obtain ⟨i, j, dk, hi0, hj0, him, hjb, rfl, rfl, hds, hH, U, HRW, HPI⟩ := hrel
    obtain ⟨c0, c1⟩ := HF.out.upd U hgn
    have hgr : g < wr.heap.size := Nat.lt_of_lt_of_le hgW U.size
    have hsd : SwapE Try.prog sf sb g dk.size := by rw [hds]; exact HSW.out
    by_cases hij : i = j
    · subst hij
      have tij : ((i : Int) != (i : Int)) = false := by simp
      have h := c_swapRange gl sf g lb sb (m - i) m i dk wr hsd hH hgr (by omega) (by omega) (by omega)
      rw [show ((m - i : Nat) : Int) = (m : Int) - (i : Int) by omega] at h
      clear hH
      go_wp2_with fail
      refine h.mono ?_; rintro e w2 ⟨rfl, d2, hH2, U2, hs2, hp2⟩
      have HP2 := Lib.hid (permIn_trans _ _ _ _ _ HPI.out (permIn_mono dk d2 (m - i) (m + i) a b (by omega) (by omega) (by omega) hp2))
      have HRD := Lib.hid (HRW.out.done (by omega) hs2)
      clear hs2 hp2
      go_wp2
      go_end0
      exact ⟨rfl, d2, hH2, updS_tr HU1.out (updS_tr U U2), HRD.out, HP2.out⟩
    · have tij : ((i : Int) != (j : Int)) = true := by simp; omega
      have hijI : ¬ (i : Int) = (j : Int) := by omega
      by_cases hlt : j < i
      · have hltI : (j : Int) < (i : Int) := by omega
        have h := c_swapRange gl sf g lb sb (m - i) m j dk wr hsd hH hgr (by omega) (by omega) (by omega)
        rw [show ((m - i : Nat) : Int) = (m : Int) - (i : Int) by omega] at h
        clear hH
        go_wp2_with fail
        refine h.mono ?_; rintro e w2 ⟨rfl, d2, hH2, U2, hs2, hp2⟩
        have HP2 := Lib.hid (permIn_trans _ _ _ _ _ HPI.out (permIn_mono dk d2 (m - i) (m + j) a b (by omega) (by omega) (by omega) hp2))
        have HRL := Lib.hid (HRW.out.left (by omega) hlt hs2)
        have hsz2 : d2.size = d.size := hp2.1.trans hds
        have HU2 := Lib.hid (updS_tr U U2)
        have HH2 := Lib.hid hH2
        clear hs2 hp2 U2 hH2 hsd
        go_wp2
        exact ⟨⟨i - j, j, d2, by omega, hj0, by omega, hjb, by go_num, rfl, hsz2, HH2.out, HU2.out, HRL, HP2⟩, by simp [intOf]; omega⟩
      · have hltI : ¬ (j : Int) < (i : Int) := by omega
        have h := c_swapRange gl sf g lb sb (m - i) (m + j - i) i dk wr hsd hH hgr (by omega) (by omega) (by omega)
        rw [show ((m - i : Nat) : Int) = (m : Int) - (i : Int) by omega, show ((m + j - i : Nat) : Int) = (m : Int) + (j : Int) - (i : Int) by omega] at h
        clear hH
        go_wp2_with fail
        refine h.mono ?_; rintro e w2 ⟨rfl, d2, hH2, U2, hs2, hp2⟩
        have HP2 := Lib.hid (permIn_trans _ _ _ _ _ HPI.out (permIn_mono dk d2 (m - i) (m + j - i + i) a b (by omega) (by omega) (by omega) hp2))
        have HRL := Lib.hid (HRW.out.right (by omega) (by omega) hs2)
        have hsz2 : d2.size = d.size := hp2.1.trans hds
        have HU2 := Lib.hid (updS_tr U U2)
        have HH2 := Lib.hid hH2
        clear hs2 hp2 U2 hH2 hsd
        go_wp2
        exact ⟨⟨i, j - i, d2, hi0, by omega, him, by omega, rfl, by go_num, hsz2, HH2.out, HU2.out, HRL, HP2⟩, by simp [intOf]; omega⟩
set_option maxHeartbeats 4000000 in
set_option maxRecDepth 100000 in
theorem c_insertionSort (gl sf g : Nat) (lb sb : Array Value) (eg : ∀ args w, (callFunc gl args).run Try.prog w = .ok (.enter gl args) w) (a b : Nat) (d : Array Ev) (w0 w : World) (hls : LessE Try.prog gl lb w0 g d.size) (U0 : UpdS (fun x => x = g) w0 w) (hsw : SwapE Try.prog sf sb g d.size) (hH : HoE w g d) (hg : g < w.heap.size) (hab : a ≤ b) (hb : b ≤ d.size) (hsz : d.size ≤ 1000000) :
    Calls Try.prog 131 #[.agg #[.func (.func gl) #[] lb, .func (.func sf) #[] sb], .int .i64 a, .int .i64 b] w fun e w' => e = .returned (.tuple #[]) ∧ HoE w' g (insertionSort ltE d a b) ∧ UpdS (fun x => x = g) w w' := by
  obtain ⟨W1, hW1⟩ : ∃ W1, W1 = w.alloc (.cells #[.func (.func gl) #[] lb, .func (.func sf) #[] sb] 133) := ⟨_, rfl⟩
  have HF : Hid (FnBox W1 w.heap.size gl sf lb sb) := Lib.hid (by rw [hW1]; exact fnBox_new w _ gl sf lb sb)
  have HU1 : Hid (UpdS (fun x => x = g) w W1) := Lib.hid (by rw [hW1]; exact updS_new w _)
  have H1 : HoE W1 g d := by rw [hW1]; exact hH.below ((Below.refl _ _).al _)
  have hgn : w.heap.size ≠ g := by omega
  have hgW : g < W1.heap.size := by rw [hW1]; simp; omega
  have HSW := Lib.hid hsw
  have HLS := Lib.hid hls
  have HU0 := Lib.hid (updS_tr U0 HU1.out)
  clear hH hsw hls U0
  go_enter Try.func131, Try.ntmps131
  go_wp2_with fail
  rw [← hW1]
  clear hW1
  obtain ⟨bx, hbx⟩ : ∃ bx, w.heap.size = bx := ⟨_, rfl⟩
  rw [hbx] at HF hgn ⊢
  clear hbx
  go_loopw [6] (fun vi wr => ∃ (i : Nat) (dk : Array Ev), vi = .int .i64 i ∧ a < i ∧ i ≤ b + 1 ∧ dk.size = d.size ∧ HoE wr g dk ∧ UpdS (fun x => x = g) W1 wr ∧ Hid (insOuter ltE a b i dk = insOuter ltE a b (a + 1) d)) (fun vi _ => b + 1 - (intOf vi).toNat)
  case atStart => exact ⟨a + 1, d, by go_num, by omega, by omega, rfl, H1, UpdS.refl _ _, rfl⟩
  case round =>
    clear H1
    obtain ⟨i, dk, rfl, hai, hib, hds, hH, U, HO⟩ := hrel
    by_cases hlt : i < b
    · have hltI : (i : Int) < (b : Int) := by omega
      obtain ⟨wo, rfl⟩ : ∃ wo : World, wo = wr := ⟨_, rfl⟩
      have HHO := Lib.hid hH
      have HUO := Lib.hid U
      clear hH U
      go_wp2_with fail
      go_loopw [7] (fun vj wr2 => ∃ (j : Nat) (dj : Array Ev), vj = .int .i64 j ∧ a ≤ j ∧ j ≤ i ∧ dj.size = d.size ∧ HoE wr2 g dj ∧ UpdS (fun x => x = g) W1 wr2 ∧ Hid (insInner ltE a j dj = insInner ltE a i dk)) (fun vj _ => (intOf vj).toNat)
      case atStart => exact ⟨i, dk, rfl, by omega, Nat.le_refl _, hds, HHO.out, HUO.out, rfl⟩
      case round =>
        obtain ⟨j, dj, rfl, haj, hji, hdj, hH, U, HI⟩ := hrel
        obtain ⟨c0, c1⟩ := HF.out.upd U hgn
        have out : (j ≤ a ∨ ltE dj[j]! dj[j - 1]! = false) → insOuter ltE a b (i + 1) dj = insOuter ltE a b (a + 1) d := fun hs => by
          rw [← HO.out, insOuter_go _ _ _ _ _ hlt, ← HI.out, insInner_stop _ _ _ _ hs]
        have OUT := Lib.hid out
        clear out
        by_cases hja : a < j
        · have hjaI : (a : Int) < (j : Int) := by omega
          have hl := HLS.out wr dj (updS_tr HU0.out U) hH hdj j (j - 1) (by omega) (by omega)
          rw [show (((j - 1 : Nat) : Int)) = (j : Int) - 1 by omega] at hl
          go_wp2_with (go_at_fn gl; refine hl.mono ?_; rintro e w3 ⟨rfl, hb3⟩; refine stop_of ?_)
          unfold Stopped
          have hH3 := hH.below hb3
          have U3 := updS_tr U (UpdS.of_below (D := fun x => x = g) hb3)
          have c0 := keepc hb3 c0
          have c1 := keepc hb3 c1
          have hs := HSW.out (by omega) w3 dj hH3 hdj j (j - 1) (by omega) (by omega)
          rw [show (((j - 1 : Nat) : Int)) = (j : Int) - 1 by omega] at hs
          cases hlv : ltE dj[j]! dj[j - 1]!
          · have HX := Lib.hid (OUT.out (Or.inr hlv))
            have HP := Lib.hid (And.intro hH3 U3)
            clear hs hH3 U3 hH U hl hlv
            go_wp2
            exact ⟨⟨i + 1, dj, by go_num, by omega, by omega, hdj, HP.out.1, HP.out.2, HX⟩, by simp [intOf]; omega⟩
          · have HX := Lib.hid (insInner_go ltE a j dj hja hlv)
            have HH2 := Lib.hid (hH3.swap (i := j) (j := j - 1) (by omega) (by omega))
            have HU2 := Lib.hid (updS_tr U3 (updS_tr (setCells_upd (D := fun x => x = g) rfl (rowE dj[j - 1]!) (0 + j * 4) w3) (setCells_upd (D := fun x => x = g) rfl (rowE dj[j]!) (0 + (j - 1) * 4) _)))
            have hsz2 := size_swp dj j (j - 1)
            obtain ⟨wz, hwz⟩ : ∃ wz, (w3.setCells g (0 + j * 4) (rowE dj[j - 1]!)).setCells g (0 + (j - 1) * 4) (rowE dj[j]!) = wz := ⟨_, rfl⟩
            rw [hwz] at hs HH2 HU2
            obtain ⟨dz, hdz⟩ : ∃ dz, swp dj j (j - 1) = dz := ⟨_, rfl⟩
            rw [hdz] at HH2 HX hsz2
            clear hwz hdz hH3 U3 hH U hl hlv
            go_wp2
            exact ⟨⟨j - 1, dz, by go_num, by omega, by omega, hsz2.trans hdj, HH2.out, HU2.out, by rw [← HI.out, HX.out]; rfl⟩, by simp [intOf]; omega⟩
        · have hjaI : ¬ (a : Int) < (j : Int) := by omega
          have HX := Lib.hid (OUT.out (Or.inl (by omega)))
          have HP := Lib.hid (And.intro hH U)
          clear hH U
          go_wp2
          exact ⟨⟨i + 1, dj, by go_num, by omega, by omega, hdj, HP.out.1, HP.out.2, HX⟩, by simp [intOf]; omega⟩
    · have hltI : ¬ (i : Int) < (b : Int) := by omega
      have HX : Hid (dk = insertionSort ltE d a b) := by unfold Hid insertionSort; rw [← HO.out, insOuter_stop _ _ _ _ _ hlt]
      go_wp2
      go_end0
      exact ⟨rfl, by rw [← HX.out]; exact hH, updS_tr HU1.out U⟩
end Go.Proofs.Ytgcmnpimkfmccaa
