/- SrtW, SrtM, SrtS, SrtE: laid one behind the other. -/
import Derived.Test.YtgcmnpimkfmccaaDoorPlainEv
import Derived.Test.YtgcmnpimkfmccaaDoorMemW
import Derived.Test.YtgcmnpimkfmccaaDoorKeep
import Derived.Shelf.GgSortFunc.SmallK
import Derived.Lib.ReflectliteSwap
section
namespace Go.Proofs.YtgcmnpimkfmccaaDoor
open Go.ChangeShapes Go.WideShapes Go.ChangeAt Go.RowKit Go.Sort
set_option linter.unusedSimpArgs false
set_option linter.unusedVariables false
def rowE (e : Ev) : List Value := [.int .i64 e.tick, .bool e.thr, .int .i64 e.hand, .int .i64 e.prop]
theorem rowE_len : ∀ x, (rowE x).length = 4 := fun _ => rfl
theorem rowE_one : ∀ x, ∀ v ∈ rowE x, v.oneCell' = true := fun x v hv => by
  simp only [rowE, List.mem_cons, List.not_mem_nil, or_false] at hv
  rcases hv with rfl | rfl | rfl | rfl <;> rfl
abbrev HoE (W : World) (g : Nat) (d : Array Ev) : Prop := HoldsK rowE 4 W g 0 d
theorem setCells_upd {D : Nat → Prop} {g : Nat} (hD : D g) : ∀ (vs : List Value) (o : Nat) (w : World), UpdS D w (w.setCells g o vs)
  | [], _, w => UpdS.refl _ _
  | v :: r, o, w => (UpdS.of_set (D := D) v hD).trans (setCells_upd hD r (o + 1) _) (fun _ _ h => h)
theorem HoE.below {W W' : World} {g : Nat} {d : Array Ev} (h : HoE W g d) (hb : Below W.heap.size W W') : HoE W' g d := fun j hj => by
  obtain ⟨h1, h2⟩ := h j hj
  exact ⟨keepc hb h1, frozenc hb h1 h2⟩
theorem HoE.swap {W : World} {g : Nat} {d : Array Ev} (h : HoE W g d) {i j : Nat} (hi : i < d.size) (hj : j < d.size) : HoE ((W.setCells g (0 + i * 4) (rowE d[j]!)).setCells g (0 + j * 4) (rowE d[i]!)) g (swp d i j) := by
  have hself : putRow id W g 0 (flatK rowE 4 d) = W := putRowK_self rowE 4 W g 0 d h
  have e : (W.setCells g (0 + i * 4) (rowE d[j]!)).setCells g (0 + j * 4) (rowE d[i]!) = putRow id W g 0 (flatK rowE 4 (swp d i j)) := by
    conv => lhs; rw [← hself]
    rw [setCells_putRow _ _ _ _ _ _ (by rw [rowE_len, size_flatK]; omega), setCells_putRow _ _ _ _ _ _ (by rw [rowE_len, size_setMany, size_flatK]; omega), setMany_swp rowE 4 rowE_len d i j hi hj]
  rw [e]
  exact holds_putRow id W g 0 _ _ h (by rw [size_flatK, size_flatK, size_swp])
/-- what less has to give: in every world that the sort passes through -/
def LessE (P : Program) (gl : Nat) (lb : Array Value) (w0 : World) (g n : Nat) : Prop :=
  ∀ (W : World) (d : Array Ev), UpdS (fun b => b = g) w0 W → HoE W g d → d.size = n → ∀ i j : Nat, i < n → j < n →
    Calls P gl (#[.int .i64 i, .int .i64 j] ++ lb) W fun e w' => e = .returned (.bool (ltE d[i]! d[j]!)) ∧ Below W.heap.size W w'
def SwapE (P : Program) (sf : Nat) (sb : Array Value) (g n : Nat) : Prop := 2 ≤ n → SwapSwapsK P sf sb rowE 4 g 0 n
theorem updS_new {g : Nat} (w : World) (o : Obj) : UpdS (fun b => b = g) w (w.alloc o) := UpdS.of_below ((Below.refl _ _).al o)
theorem updS_tr {g : Nat} {a b c : World} (h : UpdS (fun b => b = g) a b) (k : UpdS (fun b => b = g) b c) : UpdS (fun b => b = g) a c := h.trans k (fun _ _ d => d)
/-- the two function values in a block of their own -/
def FnBox (w : World) (b gl sf : Nat) (lb sb : Array Value) : Prop := w.cell? ⟨b, 0, none⟩ = some (.func (.func gl) #[] lb) ∧ w.cell? ⟨b, 1, none⟩ = some (.func (.func sf) #[] sb)
theorem FnBox.upd {a w : World} {b g gl sf : Nat} {lb sb : Array Value} (h : FnBox a b gl sf lb sb) (u : UpdS (fun x => x = g) a w) (hn : b ≠ g) : FnBox w b gl sf lb sb := ⟨u.cell h.1 hn, u.cell h.2 hn⟩
theorem fnBox_new (w : World) (T : TypeId) (gl sf : Nat) (lb sb : Array Value) : FnBox (w.alloc (.cells #[.func (.func gl) #[] lb, .func (.func sf) #[] sb] T)) w.heap.size gl sf lb sb :=
  ⟨World.cell?_alloc_at _ _ _ _ rfl, World.cell?_alloc_at _ _ _ _ rfl⟩
set_option maxHeartbeats 4000000 in
set_option maxRecDepth 100000 in
theorem c_swapRange (gl sf g : Nat) (lb sb : Array Value) (a b n : Nat) (d : Array Ev) (w : World) (hsw : SwapE Tryd.prog sf sb g d.size) (hH : HoE w g d) (hg : g < w.heap.size) (hab : a + n ≤ b) (hb : b + n ≤ d.size) (hsz : d.size ≤ 1000000) :
    Calls Tryd.prog 87 #[.agg #[.func (.func gl) #[] lb, .func (.func sf) #[] sb], .int .i64 a, .int .i64 b, .int .i64 n] w fun e w' => e = .returned (.tuple #[]) ∧ ∃ d' : Array Ev, HoE w' g d' ∧ UpdS (fun x => x = g) w w' ∧ SwR a b n d d' ∧ PermIn a (b + n) d d' := by
  obtain ⟨W1, hW1⟩ : ∃ W1, W1 = w.alloc (.cells #[.func (.func gl) #[] lb, .func (.func sf) #[] sb] 69) := ⟨_, rfl⟩
  have HF : Hid (FnBox W1 w.heap.size gl sf lb sb) := Lib.hid (by rw [hW1]; exact fnBox_new w _ gl sf lb sb)
  have HU1 : Hid (UpdS (fun x => x = g) w W1) := Lib.hid (by rw [hW1]; exact updS_new w _)
  have H1 : HoE W1 g d := by rw [hW1]; exact hH.below ((Below.refl _ _).al _)
  have hgn : w.heap.size ≠ g := by omega
  have HSW := Lib.hid hsw
  have HP0 := Lib.hid (permIn_refl d a (b + n))
  clear hH hsw
  go_enter Tryd.func87, Tryd.ntmps87
  go_wp2_with fail
  rw [← hW1]
  clear hW1
  obtain ⟨bx, hbx⟩ : ∃ bx, w.heap.size = bx := ⟨_, rfl⟩
  rw [hbx] at HF hgn ⊢
  clear hbx
  go_loopw [8] (fun i wr => ∃ (k : Nat) (dk : Array Ev), k ≤ n ∧ i = .int .i64 k ∧ dk.size = d.size ∧ HoE wr g dk ∧ UpdS (fun x => x = g) W1 wr ∧ Hid (SwR a b k d dk) ∧ Hid (PermIn a (b + n) d dk)) (fun i _ => n - (intOf i).toNat)
  case atStart => exact ⟨0, d, Nat.zero_le _, rfl, rfl, H1, UpdS.refl _ _, SwR.zero a b d, HP0.out⟩
  case round =>
    clear H1
    obtain ⟨k, dk, hk, rfl, hds, hH, U, HSR, HPI⟩ := hrel
    obtain ⟨c0, c1⟩ := HF.out.upd U hgn
    by_cases hlt : k < n
    · have hs := HSW.out (by omega) wr dk hH hds (a + k) (b + k) (by omega) (by omega)
      have HH2 := Lib.hid (hH.swap (i := a + k) (j := b + k) (by omega) (by omega))
      have HU2 := Lib.hid (updS_tr U (updS_tr (setCells_upd (D := fun x => x = g) rfl (rowE dk[b + k]!) (0 + (a + k) * 4) wr) (setCells_upd (D := fun x => x = g) rfl (rowE dk[a + k]!) (0 + (b + k) * 4) _)))
      have HSR2 := Lib.hid (HSR.out.step (by omega) (by omega))
      have HPI2 := Lib.hid (permIn_trans _ _ _ _ _ HPI.out (swp_permIn dk a (b + n) (a + k) (b + k) (by omega) (by omega) (by omega) (by omega) (by omega)))
      have hsz2 := size_swp dk (a + k) (b + k)
      have h1 : ((a + k : Nat) : Int) = (a : Int) + (k : Int) := by omega
      have h2 : ((b + k : Nat) : Int) = (b : Int) + (k : Int) := by omega
      rw [h1, h2] at hs
      clear hH U HSR HPI
      obtain ⟨wz, hwz⟩ : ∃ wz, (wr.setCells g (0 + (a + k) * 4) (rowE dk[b + k]!)).setCells g (0 + (b + k) * 4) (rowE dk[a + k]!) = wz := ⟨_, rfl⟩
      rw [hwz] at hs HH2 HU2
      clear hwz
      obtain ⟨dz, hdz⟩ : ∃ dz, swp dk (a + k) (b + k) = dz := ⟨_, rfl⟩
      rw [hdz] at HH2 HSR2 HPI2 hsz2
      clear hdz h1 h2
      go_wp2
      exact ⟨⟨k + 1, dz, by omega, by go_num, hsz2.trans hds, HH2.out, HU2.out, HSR2, HPI2⟩, by simp [intOf]; omega⟩
    · have hke : k = n := by omega
      subst hke
      go_wp2
      go_end0
      exact ⟨rfl, dk, hH, updS_tr HU1.out U, HSR.out, HPI.out⟩
set_option maxHeartbeats 4000000 in
set_option maxRecDepth 100000 in
theorem c_rotate (gl sf g : Nat) (lb sb : Array Value) (a m b : Nat) (d : Array Ev) (w : World) (hsw : SwapE Tryd.prog sf sb g d.size) (hH : HoE w g d) (hg : g < w.heap.size) (ham : a < m) (hmb : m < b) (hb : b ≤ d.size) (hsz : d.size ≤ 1000000) :
    Calls Tryd.prog 81 #[.agg #[.func (.func gl) #[] lb, .func (.func sf) #[] sb], .int .i64 a, .int .i64 m, .int .i64 b] w fun e w' => e = .returned (.tuple #[]) ∧ ∃ d' : Array Ev, HoE w' g d' ∧ UpdS (fun x => x = g) w w' ∧ Rot a m b d d' ∧ PermIn a b d d' := by
  obtain ⟨W1, hW1⟩ : ∃ W1, W1 = w.alloc (.cells #[.func (.func gl) #[] lb, .func (.func sf) #[] sb] 69) := ⟨_, rfl⟩
  have HF : Hid (FnBox W1 w.heap.size gl sf lb sb) := Lib.hid (by rw [hW1]; exact fnBox_new w _ gl sf lb sb)
  have HU1 : Hid (UpdS (fun x => x = g) w W1) := Lib.hid (by rw [hW1]; exact updS_new w _)
  have H1 : HoE W1 g d := by rw [hW1]; exact hH.below ((Below.refl _ _).al _)
  have hgn : w.heap.size ≠ g := by omega
  have hgW : g < W1.heap.size := by rw [hW1]; simp; omega
  have HSW := Lib.hid hsw
  have HP0 := Lib.hid (permIn_refl d a b)
  have HR0 := Lib.hid (RotW.start (a := a) (m := m) (b := b) (d := d) (by omega) (by omega))
  clear hH hsw
  go_enter Tryd.func81, Tryd.ntmps81
  go_wp2_with fail
  rw [← hW1]
  clear hW1
  obtain ⟨bx, hbx⟩ : ∃ bx, w.heap.size = bx := ⟨_, rfl⟩
  rw [hbx] at HF hgn ⊢
  clear hbx
  go_loopw [8, 9] (fun vi vj wr => ∃ (i j : Nat) (dk : Array Ev), 0 < i ∧ 0 < j ∧ i ≤ m - a ∧ j ≤ b - m ∧ vi = .int .i64 i ∧ vj = .int .i64 j ∧ dk.size = d.size ∧ HoE wr g dk ∧ UpdS (fun x => x = g) W1 wr ∧ Hid (RotW a m b i j d dk) ∧ Hid (PermIn a b d dk)) (fun vi vj _ => (intOf vi).toNat + (intOf vj).toNat)
  case atStart => exact ⟨m - a, b - m, d, by omega, by omega, Nat.le_refl _, Nat.le_refl _, by congr 1; omega, by congr 1; omega, rfl, H1, UpdS.refl _ _, HR0.out, HP0.out⟩
  case round =>
    clear H1
    obtain ⟨i, j, dk, hi0, hj0, him, hjb, rfl, rfl, hds, hH, U, HRW, HPI⟩ := hrel
    obtain ⟨c0, c1⟩ := HF.out.upd U hgn
    have hgr : g < wr.heap.size := Nat.lt_of_lt_of_le hgW U.size
    have hsd : SwapE Tryd.prog sf sb g dk.size := by rw [hds]; exact HSW.out
    by_cases hij : i = j
    · subst hij
      have tij : ((i : Int) != (i : Int)) = false := by simp
      have h := c_swapRange gl sf g lb sb (m - i) m i dk wr hsd hH hgr (by omega) (by omega) (by omega)
      rw [show ((m - i : Nat) : Int) = (m : Int) - (i : Int) by omega] at h
      clear hH
      go_wp2_with fail
      refine h.mono ?_; rintro e w2 ⟨rfl, d2, hH2, U2, hs2, hp2⟩
      have HP2 := Lib.hid (permIn_trans _ _ _ _ _ HPI.out (permIn_mono dk d2 (m - i) (m + i) a b (by omega) (by omega) (by omega) hp2))
      have HRD := Lib.hid (HRW.out.done (by omega) hs2)
      clear hs2 hp2
      go_wp2
      go_end0
      exact ⟨rfl, d2, hH2, updS_tr HU1.out (updS_tr U U2), HRD.out, HP2.out⟩
    · have tij : ((i : Int) != (j : Int)) = true := by simp; omega
      have hijI : ¬ (i : Int) = (j : Int) := by omega
      by_cases hlt : j < i
      · have hltI : (j : Int) < (i : Int) := by omega
        have h := c_swapRange gl sf g lb sb (m - i) m j dk wr hsd hH hgr (by omega) (by omega) (by omega)
        rw [show ((m - i : Nat) : Int) = (m : Int) - (i : Int) by omega] at h
        clear hH
        go_wp2_with fail
        refine h.mono ?_; rintro e w2 ⟨rfl, d2, hH2, U2, hs2, hp2⟩
        have HP2 := Lib.hid (permIn_trans _ _ _ _ _ HPI.out (permIn_mono dk d2 (m - i) (m + j) a b (by omega) (by omega) (by omega) hp2))
        have HRL := Lib.hid (HRW.out.left (by omega) hlt hs2)
        have hsz2 : d2.size = d.size := hp2.1.trans hds
        have HU2 := Lib.hid (updS_tr U U2)
        have HH2 := Lib.hid hH2
        clear hs2 hp2 U2 hH2 hsd
        go_wp2
        exact ⟨⟨i - j, j, d2, by omega, hj0, by omega, hjb, by go_num, rfl, hsz2, HH2.out, HU2.out, HRL, HP2⟩, by simp [intOf]; omega⟩
      · have hltI : ¬ (j : Int) < (i : Int) := by omega
        have h := c_swapRange gl sf g lb sb (m - i) (m + j - i) i dk wr hsd hH hgr (by omega) (by omega) (by omega)
        rw [show ((m - i : Nat) : Int) = (m : Int) - (i : Int) by omega, show ((m + j - i : Nat) : Int) = (m : Int) + (j : Int) - (i : Int) by omega] at h
        clear hH
        go_wp2_with fail
        refine h.mono ?_; rintro e w2 ⟨rfl, d2, hH2, U2, hs2, hp2⟩
        have HP2 := Lib.hid (permIn_trans _ _ _ _ _ HPI.out (permIn_mono dk d2 (m - i) (m + j - i + i) a b (by omega) (by omega) (by omega) hp2))
        have HRL := Lib.hid (HRW.out.right (by omega) (by omega) hs2)
        have hsz2 : d2.size = d.size := hp2.1.trans hds
        have HU2 := Lib.hid (updS_tr U U2)
        have HH2 := Lib.hid hH2
        clear hs2 hp2 U2 hH2 hsd
        go_wp2
        exact ⟨⟨i, j - i, d2, hi0, by omega, him, by omega, rfl, by go_num, hsz2, HH2.out, HU2.out, HRL, HP2⟩, by simp [intOf]; omega⟩
set_option maxHeartbeats 4000000 in
set_option maxRecDepth 100000 in
theorem c_insertionSort (gl sf g : Nat) (lb sb : Array Value) (eg : ∀ args w, (callFunc gl args).run Tryd.prog w = .ok (.enter gl args) w) (a b : Nat) (d : Array Ev) (w0 w : World) (hls : LessE Tryd.prog gl lb w0 g d.size) (U0 : UpdS (fun x => x = g) w0 w) (hsw : SwapE Tryd.prog sf sb g d.size) (hH : HoE w g d) (hg : g < w.heap.size) (hab : a ≤ b) (hb : b ≤ d.size) (hsz : d.size ≤ 1000000) :
    Calls Tryd.prog 75 #[.agg #[.func (.func gl) #[] lb, .func (.func sf) #[] sb], .int .i64 a, .int .i64 b] w fun e w' => e = .returned (.tuple #[]) ∧ HoE w' g (insertionSort ltE d a b) ∧ UpdS (fun x => x = g) w w' := by
  obtain ⟨W1, hW1⟩ : ∃ W1, W1 = w.alloc (.cells #[.func (.func gl) #[] lb, .func (.func sf) #[] sb] 69) := ⟨_, rfl⟩
  have HF : Hid (FnBox W1 w.heap.size gl sf lb sb) := Lib.hid (by rw [hW1]; exact fnBox_new w _ gl sf lb sb)
  have HU1 : Hid (UpdS (fun x => x = g) w W1) := Lib.hid (by rw [hW1]; exact updS_new w _)
  have H1 : HoE W1 g d := by rw [hW1]; exact hH.below ((Below.refl _ _).al _)
  have hgn : w.heap.size ≠ g := by omega
  have hgW : g < W1.heap.size := by rw [hW1]; simp; omega
  have HSW := Lib.hid hsw
  have HLS := Lib.hid hls
  have HU0 := Lib.hid (updS_tr U0 HU1.out)
  clear hH hsw hls U0
  go_enter Tryd.func75, Tryd.ntmps75
  go_wp2_with fail
  rw [← hW1]
  clear hW1
  obtain ⟨bx, hbx⟩ : ∃ bx, w.heap.size = bx := ⟨_, rfl⟩
  rw [hbx] at HF hgn ⊢
  clear hbx
  go_loopw [6] (fun vi wr => ∃ (i : Nat) (dk : Array Ev), vi = .int .i64 i ∧ a < i ∧ i ≤ b + 1 ∧ dk.size = d.size ∧ HoE wr g dk ∧ UpdS (fun x => x = g) W1 wr ∧ Hid (insOuter ltE a b i dk = insOuter ltE a b (a + 1) d)) (fun vi _ => b + 1 - (intOf vi).toNat)
  case atStart => exact ⟨a + 1, d, by go_num, by omega, by omega, rfl, H1, UpdS.refl _ _, rfl⟩
  case round =>
    clear H1
    obtain ⟨i, dk, rfl, hai, hib, hds, hH, U, HO⟩ := hrel
    by_cases hlt : i < b
    · have hltI : (i : Int) < (b : Int) := by omega
      obtain ⟨wo, rfl⟩ : ∃ wo : World, wo = wr := ⟨_, rfl⟩
      have HHO := Lib.hid hH
      have HUO := Lib.hid U
      clear hH U
      go_wp2_with fail
      go_loopw [7] (fun vj wr2 => ∃ (j : Nat) (dj : Array Ev), vj = .int .i64 j ∧ a ≤ j ∧ j ≤ i ∧ dj.size = d.size ∧ HoE wr2 g dj ∧ UpdS (fun x => x = g) W1 wr2 ∧ Hid (insInner ltE a j dj = insInner ltE a i dk)) (fun vj _ => (intOf vj).toNat)
      case atStart => exact ⟨i, dk, rfl, by omega, Nat.le_refl _, hds, HHO.out, HUO.out, rfl⟩
      case round =>
        obtain ⟨j, dj, rfl, haj, hji, hdj, hH, U, HI⟩ := hrel
        obtain ⟨c0, c1⟩ := HF.out.upd U hgn
        have out : (j ≤ a ∨ ltE dj[j]! dj[j - 1]! = false) → insOuter ltE a b (i + 1) dj = insOuter ltE a b (a + 1) d := fun hs => by
          rw [← HO.out, insOuter_go _ _ _ _ _ hlt, ← HI.out, insInner_stop _ _ _ _ hs]
        have OUT := Lib.hid out
        clear out
        by_cases hja : a < j
        · have hjaI : (a : Int) < (j : Int) := by omega
          have hl := HLS.out wr dj (updS_tr HU0.out U) hH hdj j (j - 1) (by omega) (by omega)
          rw [show (((j - 1 : Nat) : Int)) = (j : Int) - 1 by omega] at hl
          go_wp2_with (go_at_fn gl; refine hl.mono ?_; rintro e w3 ⟨rfl, hb3⟩; refine stop_of ?_)
          unfold Stopped
          have hH3 := hH.below hb3
          have U3 := updS_tr U (UpdS.of_below (D := fun x => x = g) hb3)
          have c0 := keepc hb3 c0
          have c1 := keepc hb3 c1
          have hs := HSW.out (by omega) w3 dj hH3 hdj j (j - 1) (by omega) (by omega)
          rw [show (((j - 1 : Nat) : Int)) = (j : Int) - 1 by omega] at hs
          cases hlv : ltE dj[j]! dj[j - 1]!
          · have HX := Lib.hid (OUT.out (Or.inr hlv))
            have HP := Lib.hid (And.intro hH3 U3)
            clear hs hH3 U3 hH U hl hlv
            go_wp2
            exact ⟨⟨i + 1, dj, by go_num, by omega, by omega, hdj, HP.out.1, HP.out.2, HX⟩, by simp [intOf]; omega⟩
          · have HX := Lib.hid (insInner_go ltE a j dj hja hlv)
            have HH2 := Lib.hid (hH3.swap (i := j) (j := j - 1) (by omega) (by omega))
            have HU2 := Lib.hid (updS_tr U3 (updS_tr (setCells_upd (D := fun x => x = g) rfl (rowE dj[j - 1]!) (0 + j * 4) w3) (setCells_upd (D := fun x => x = g) rfl (rowE dj[j]!) (0 + (j - 1) * 4) _)))
            have hsz2 := size_swp dj j (j - 1)
            obtain ⟨wz, hwz⟩ : ∃ wz, (w3.setCells g (0 + j * 4) (rowE dj[j - 1]!)).setCells g (0 + (j - 1) * 4) (rowE dj[j]!) = wz := ⟨_, rfl⟩
            rw [hwz] at hs HH2 HU2
            obtain ⟨dz, hdz⟩ : ∃ dz, swp dj j (j - 1) = dz := ⟨_, rfl⟩
            rw [hdz] at HH2 HX hsz2
            clear hwz hdz hH3 U3 hH U hl hlv
            go_wp2
            exact ⟨⟨j - 1, dz, by go_num, by omega, by omega, hsz2.trans hdj, HH2.out, HU2.out, by rw [← HI.out, HX.out]; rfl⟩, by simp [intOf]; omega⟩
        · have hjaI : ¬ (a : Int) < (j : Int) := by omega
          have HX := Lib.hid (OUT.out (Or.inl (by omega)))
          have HP := Lib.hid (And.intro hH U)
          clear hH U
          go_wp2
          exact ⟨⟨i + 1, dj, by go_num, by omega, by omega, hdj, HP.out.1, HP.out.2, HX⟩, by simp [intOf]; omega⟩
    · have hltI : ¬ (i : Int) < (b : Int) := by omega
      have HX : Hid (dk = insertionSort ltE d a b) := by unfold Hid insertionSort; rw [← HO.out, insOuter_stop _ _ _ _ _ hlt]
      go_wp2
      go_end0
      exact ⟨rfl, by rw [← HX.out]; exact hH, updS_tr HU1.out U⟩
end Go.Proofs.YtgcmnpimkfmccaaDoor
end
section
namespace Go.Proofs.YtgcmnpimkfmccaaDoor
open Go.ChangeShapes Go.WideShapes Go.ChangeAt Go.RowKit Go.Sort
set_option linter.unusedSimpArgs false
set_option linter.unusedVariables false
theorem permIn_swap {a b : Nat} {d d' : Array Ev} {i j : Nat} (h : PermIn a b d d') (h1 : a ≤ i) (h2 : i < b) (h3 : a ≤ j) (h4 : j < b) (hbs : b ≤ d.size) : PermIn a b d (swp d' i j) :=
  permIn_trans _ _ _ _ _ h (swp_permIn d' a b i j h1 h2 h3 h4 (by rw [h.1]; exact hbs))
theorem sorted_keep {a c x y : Nat} {d d' : Array Ev} (h : PermIn a c d d') (hx : c ≤ x) (hs : SortedIn ltE x y d) : SortedIn ltE x y d' := fun i j hi hij hj => by
  rw [h.2.1 i (Or.inr (by omega)), h.2.1 j (Or.inr (by omega))]; exact hs i j hi hij hj
/-- what stands behind the rotation -/
def Halved (a s mid en b : Nat) (d1 : Array Ev) : Prop := SortedIn ltE a s d1 ∧ SortedIn ltE s mid d1 ∧ SortedIn ltE mid en d1 ∧ SortedIn ltE en b d1 ∧ ∀ x y, a ≤ x → x < mid → mid ≤ y → y < b → ltE d1[y]! d1[x]! = false
theorem halved_of {a s m en mid b : Nat} {d d1 : Array Ev} (h1 : a ≤ s) (h2 : s ≤ m) (h3 : m ≤ en) (h4 : en ≤ b) (hn : mid + m = en + s) (hl : SortedIn ltE a m d) (hr : SortedIn ltE m b d)
    (hlo : a < s → en < b → ltE d[en]! d[s - 1]! = false) (hhi : s < m → m < en → ltE d[en - 1]! d[s]! = true) (hR : Rot s m en d d1) : Halved a s mid en b d1 := by
  have h := halves swoE h1 h2 h3 h4 hl hr hlo hhi hR
  rwa [show s + (en - m) = mid by omega] at h
theorem halved_low {a s mid en b : Nat} {d1 : Array Ev} (h : Halved a s mid en b d1) (hs : s ≤ a ∨ mid ≤ s) (h1 : a ≤ s) (h2 : s ≤ mid) : SortedIn ltE a mid d1 := by
  rcases hs with e | e
  · exact sorted_part h.2.1 (by omega) (Nat.le_refl _)
  · exact sorted_part h.1 (Nat.le_refl _) (by omega)
theorem halved_high {a s mid en b : Nat} {d1 d2 : Array Ev} (h : Halved a s mid en b d1) (hs : en ≤ mid ∨ b ≤ en) (h1 : mid ≤ en) (h2 : en ≤ b) (p : PermIn a mid d1 d2) : SortedIn ltE mid b d2 := by
  refine sorted_keep p (Nat.le_refl _) ?_
  rcases hs with e | e
  · exact sorted_part h.2.2.2.1 (by omega) (Nat.le_refl _)
  · exact sorted_part h.2.2.1 (Nat.le_refl _) (by omega)
set_option maxHeartbeats 16000000 in
set_option maxRecDepth 100000 in
theorem c_symA (gl sf g n : Nat) (lb sb : Array Value) (eg : ∀ args w, (callFunc gl args).run Tryd.prog w = .ok (.enter gl args) w) (w0 : World) (hls : LessE Tryd.prog gl lb w0 g n) (hsw : SwapE Tryd.prog sf sb g n) (hsz : n ≤ 1000000)
    (a m b : Nat) (d : Array Ev) (w : World) (ham1 : m ≤ a + 1) (ham2 : a + 1 ≤ m) (hmb : m < b) (hb : b ≤ d.size) (hdn : d.size = n) (U0 : UpdS (fun x => x = g) w0 w) (hH : HoE w g d) (hg : g < w.heap.size) (hs2 : SortedIn ltE m b d) :
    Calls Tryd.prog 76 #[.agg #[.func (.func gl) #[] lb, .func (.func sf) #[] sb], .int .i64 a, .int .i64 m, .int .i64 b] w fun e w' => e = .returned (.tuple #[]) ∧ ∃ d' : Array Ev, HoE w' g d' ∧ UpdS (fun x => x = g) w w' ∧ PermIn a b d d' ∧ SortedIn ltE a b d' := by
  obtain ⟨W1, hW1⟩ : ∃ W1, W1 = w.alloc (.cells #[.func (.func gl) #[] lb, .func (.func sf) #[] sb] 69) := ⟨_, rfl⟩
  have HF : Hid (FnBox W1 w.heap.size gl sf lb sb) := Lib.hid (by rw [hW1]; exact fnBox_new w _ gl sf lb sb)
  have HU1 : Hid (UpdS (fun x => x = g) w W1) := Lib.hid (by rw [hW1]; exact updS_new w _)
  have H1 : Hid (HoE W1 g d) := Lib.hid (by rw [hW1]; exact hH.below ((Below.refl _ _).al _))
  have hgn : w.heap.size ≠ g := by omega
  have HSW := Lib.hid hsw
  have HLS := Lib.hid hls
  have HU0 := Lib.hid (updS_tr U0 HU1.out)
  have HS2 := Lib.hid hs2
  clear hH hsw hls U0 hs2
  have t1 : ((m : Int) - (a : Int) == 1) = true := by simp; omega
  go_enter Tryd.func76, Tryd.ntmps76
  go_wp2_with fail
  rw [← hW1]
  clear hW1
  obtain ⟨bx, hbx⟩ : ∃ bx, w.heap.size = bx := ⟨_, rfl⟩
  rw [hbx] at HF hgn ⊢
  clear hbx
  go_loopw [8, 9] (fun vi vj wr => ∃ (i j : Nat), vi = .int .i64 i ∧ vj = .int .i64 j ∧ a + 1 ≤ i ∧ i ≤ j ∧ j ≤ b ∧ HoE wr g d ∧ UpdS (fun x => x = g) W1 wr ∧ Hid ((a + 1 < i → ltE d[i - 1]! d[a]! = true) ∧ (j < b → ltE d[j]! d[a]! = false))) (fun vi vj _ => (intOf vj).toNat - (intOf vi).toNat)
  case atStart => exact ⟨m, b, rfl, rfl, by omega, by omega, Nat.le_refl _, H1.out, UpdS.refl _ _, ⟨fun h => by omega, fun h => absurd h (Nat.lt_irrefl _)⟩⟩
  case round =>
    clear H1
    obtain ⟨i, j, rfl, rfl, hai, hij, hjb, hH, U, HI⟩ := hrel
    obtain ⟨c0, c1⟩ := HF.out.upd U hgn
    by_cases hlt : i < j
    · have hltI : (i : Int) < (j : Int) := by omega
      obtain ⟨h, hh1, hh2⟩ : ∃ h, 2 * h ≤ i + j ∧ i + j < 2 * h + 2 := ⟨(i + j) / 2, by omega, by omega⟩
      have hl := HLS.out wr d (updS_tr HU0.out U) hH hdn h a (by omega) (by omega)
      rw [show ((h : Nat) : Int) = ((i : Int) + (j : Int)) / 2 by omega] at hl
      go_wp2_with (go_at_fn gl; refine hl.mono ?_; rintro e w3 ⟨rfl, hb3⟩; refine stop_of ?_)
      unfold Stopped
      have hH3 := hH.below hb3
      have U3 := updS_tr U (UpdS.of_below (D := fun x => x = g) hb3)
      cases hlv : ltE d[h]! d[a]!
      · have HX : Hid ((a + 1 < i → ltE d[i - 1]! d[a]! = true) ∧ (h < b → ltE d[h]! d[a]! = false)) := ⟨HI.out.1, fun _ => hlv⟩
        have HP := Lib.hid (And.intro hH3 U3)
        clear hH3 U3 hH U hl hlv HI
        go_wp2
        exact ⟨⟨i, h, rfl, by congr 1; omega, hai, by omega, by omega, HP.out.1, HP.out.2, HX⟩, by simp [intOf]; omega⟩
      · have HX : Hid ((a + 1 < h + 1 → ltE d[h + 1 - 1]! d[a]! = true) ∧ (j < b → ltE d[j]! d[a]! = false)) := ⟨fun _ => hlv, HI.out.2⟩
        have HP := Lib.hid (And.intro hH3 U3)
        clear hH3 U3 hH U hl hlv HI
        go_wp2
        exact ⟨⟨h + 1, j, by go_num, rfl, by omega, by omega, hjb, HP.out.1, HP.out.2, HX⟩, by simp [intOf]; omega⟩
    · have hltI : ¬ (i : Int) < (j : Int) := by omega
      have hie : i = j := by omega
      subst hie
      clear hlt
      obtain ⟨wo, rfl⟩ : ∃ wo : World, wo = wr := ⟨_, rfl⟩
      have HHO := Lib.hid hH
      have HUO := Lib.hid U
      clear hH U c0 c1
      go_wp2_with fail
      go_loopw [11] (fun vk wr => ∃ (k : Nat) (dk : Array Ev), vk = .int .i64 k ∧ a ≤ k ∧ k + 1 ≤ i ∧ dk.size = d.size ∧ HoE wr g dk ∧ UpdS (fun x => x = g) W1 wr ∧ Hid (Rot a (a + 1) (k + 1) d dk) ∧ Hid (PermIn a b d dk)) (fun vk _ => i - (intOf vk).toNat)
      case atStart => exact ⟨a, d, rfl, Nat.le_refl _, by omega, rfl, HHO.out, HUO.out, Rot.none (by omega) (by omega) (Or.inr rfl), permIn_refl _ _ _⟩
      case round =>
        clear HHO HUO
        obtain ⟨k, dk, rfl, hak, hki, hds, hH, U, HR, HP⟩ := hrel
        obtain ⟨c0, c1⟩ := HF.out.upd U hgn
        by_cases hk : k + 1 < i
        · have hkI : (k : Int) < (i : Int) - 1 := by omega
          have hs := HSW.out (by omega) wr dk hH (by omega) k (k + 1) (by omega) (by omega)
          rw [show (((k + 1 : Nat)) : Int) = (k : Int) + 1 by omega] at hs
          have HH2 := Lib.hid (hH.swap (i := k) (j := k + 1) (by omega) (by omega))
          have HU2 := Lib.hid (updS_tr U (updS_tr (setCells_upd (D := fun x => x = g) rfl (rowE dk[k + 1]!) (0 + k * 4) wr) (setCells_upd (D := fun x => x = g) rfl (rowE dk[k]!) (0 + (k + 1) * 4) _)))
          have HR2 := Lib.hid (HR.out.carry (by omega) (by omega))
          have HP2 := Lib.hid (permIn_swap HP.out (i := k) (j := k + 1) (by omega) (by omega) (by omega) (by omega) (by omega))
          have hsz2 := size_swp dk k (k + 1)
          obtain ⟨wz, hwz⟩ : ∃ wz, (wr.setCells g (0 + k * 4) (rowE dk[k + 1]!)).setCells g (0 + (k + 1) * 4) (rowE dk[k]!) = wz := ⟨_, rfl⟩
          rw [hwz] at hs HH2 HU2
          obtain ⟨dz, hdz⟩ : ∃ dz, swp dk k (k + 1) = dz := ⟨_, rfl⟩
          rw [hdz] at HH2 HR2 HP2 hsz2
          clear hwz hdz hH U HR HP
          go_wp2
          exact ⟨⟨k + 1, dz, by go_num, by omega, by omega, hsz2.trans hds, HH2.out, HU2.out, HR2, HP2⟩, by simp [intOf]; omega⟩
        · have hkI : ¬ (k : Int) < (i : Int) - 1 := by omega
          have hke : k + 1 = i := by omega
          have HX : Hid (SortedIn ltE a b dk) := by
            have hr := HR.out
            rw [hke] at hr
            exact merged_one swoE (by omega) (by omega) (sorted_part HS2.out (by omega) (Nat.le_refl _)) HI.out.2 HI.out.1 hr
          clear HI
          go_wp2
          refine bodyPost_ret (results_none rfl _ _ _) rfl ?_
          exact ⟨rfl, dk, hH, updS_tr HU1.out U, HP.out, HX.out⟩
set_option maxHeartbeats 16000000 in
set_option maxRecDepth 100000 in
theorem c_symB (gl sf g n : Nat) (lb sb : Array Value) (eg : ∀ args w, (callFunc gl args).run Tryd.prog w = .ok (.enter gl args) w) (w0 : World) (hls : LessE Tryd.prog gl lb w0 g n) (hsw : SwapE Tryd.prog sf sb g n) (hsz : n ≤ 1000000)
    (a m b : Nat) (d : Array Ev) (w : World) (ham : a + 2 ≤ m) (hmb1 : m + 1 ≤ b) (hmb2 : b ≤ m + 1) (hb : b ≤ d.size) (hdn : d.size = n) (U0 : UpdS (fun x => x = g) w0 w) (hH : HoE w g d) (hg : g < w.heap.size) (hs2 : SortedIn ltE a m d) :
    Calls Tryd.prog 76 #[.agg #[.func (.func gl) #[] lb, .func (.func sf) #[] sb], .int .i64 a, .int .i64 m, .int .i64 b] w fun e w' => e = .returned (.tuple #[]) ∧ ∃ d' : Array Ev, HoE w' g d' ∧ UpdS (fun x => x = g) w w' ∧ PermIn a b d d' ∧ SortedIn ltE a b d' := by
  obtain ⟨W1, hW1⟩ : ∃ W1, W1 = w.alloc (.cells #[.func (.func gl) #[] lb, .func (.func sf) #[] sb] 69) := ⟨_, rfl⟩
  have HF : Hid (FnBox W1 w.heap.size gl sf lb sb) := Lib.hid (by rw [hW1]; exact fnBox_new w _ gl sf lb sb)
  have HU1 : Hid (UpdS (fun x => x = g) w W1) := Lib.hid (by rw [hW1]; exact updS_new w _)
  have H1 : Hid (HoE W1 g d) := Lib.hid (by rw [hW1]; exact hH.below ((Below.refl _ _).al _))
  have hgn : w.heap.size ≠ g := by omega
  have HSW := Lib.hid hsw
  have HLS := Lib.hid hls
  have HU0 := Lib.hid (updS_tr U0 HU1.out)
  have HS2 := Lib.hid hs2
  clear hH hsw hls U0 hs2
  have t1 : ((m : Int) - (a : Int) == 1) = false := by simp; omega
  have t2 : ((b : Int) - (m : Int) == 1) = true := by simp; omega
  go_enter Tryd.func76, Tryd.ntmps76
  go_wp2_with fail
  rw [← hW1]
  clear hW1
  obtain ⟨bx, hbx⟩ : ∃ bx, w.heap.size = bx := ⟨_, rfl⟩
  rw [hbx] at HF hgn ⊢
  clear hbx
  go_loopw [12, 13] (fun vi vj wr => ∃ (i j : Nat), vi = .int .i64 i ∧ vj = .int .i64 j ∧ a ≤ i ∧ i ≤ j ∧ j ≤ m ∧ HoE wr g d ∧ UpdS (fun x => x = g) W1 wr ∧ Hid ((a < i → ltE d[m]! d[i - 1]! = false) ∧ (j < m → ltE d[m]! d[j]! = true))) (fun vi vj _ => (intOf vj).toNat - (intOf vi).toNat)
  case atStart => exact ⟨a, m, rfl, rfl, by omega, by omega, Nat.le_refl _, H1.out, UpdS.refl _ _, ⟨fun h => absurd h (Nat.lt_irrefl _), fun h => absurd h (Nat.lt_irrefl _)⟩⟩
  case round =>
    clear H1
    obtain ⟨i, j, rfl, rfl, hai, hij, hjb, hH, U, HI⟩ := hrel
    obtain ⟨c0, c1⟩ := HF.out.upd U hgn
    by_cases hlt : i < j
    · have hltI : (i : Int) < (j : Int) := by omega
      obtain ⟨h, hh1, hh2⟩ : ∃ h, 2 * h ≤ i + j ∧ i + j < 2 * h + 2 := ⟨(i + j) / 2, by omega, by omega⟩
      have hl := HLS.out wr d (updS_tr HU0.out U) hH hdn m h (by omega) (by omega)
      rw [show ((h : Nat) : Int) = ((i : Int) + (j : Int)) / 2 by omega] at hl
      go_wp2_with (go_at_fn gl; refine hl.mono ?_; rintro e w3 ⟨rfl, hb3⟩; refine stop_of ?_)
      unfold Stopped
      have hH3 := hH.below hb3
      have U3 := updS_tr U (UpdS.of_below (D := fun x => x = g) hb3)
      cases hlv : ltE d[m]! d[h]!
      · have HX : Hid ((a < h + 1 → ltE d[m]! d[h + 1 - 1]! = false) ∧ (j < m → ltE d[m]! d[j]! = true)) := ⟨fun _ => hlv, HI.out.2⟩
        have HP := Lib.hid (And.intro hH3 U3)
        clear hH3 U3 hH U hl hlv HI
        go_wp2
        exact ⟨⟨h + 1, j, by go_num, rfl, by omega, by omega, hjb, HP.out.1, HP.out.2, HX⟩, by simp [intOf]; omega⟩
      · have HX : Hid ((a < i → ltE d[m]! d[i - 1]! = false) ∧ (h < m → ltE d[m]! d[h]! = true)) := ⟨HI.out.1, fun _ => hlv⟩
        have HP := Lib.hid (And.intro hH3 U3)
        clear hH3 U3 hH U hl hlv HI
        go_wp2
        exact ⟨⟨i, h, rfl, by congr 1; omega, hai, by omega, by omega, HP.out.1, HP.out.2, HX⟩, by simp [intOf]; omega⟩
    · have hltI : ¬ (i : Int) < (j : Int) := by omega
      have hie : i = j := by omega
      subst hie
      clear hlt
      obtain ⟨wo, rfl⟩ : ∃ wo : World, wo = wr := ⟨_, rfl⟩
      have HHO := Lib.hid hH
      have HUO := Lib.hid U
      clear hH U c0 c1
      go_wp2_with fail
      go_loopw [15] (fun vk wr => ∃ (k : Nat) (dk : Array Ev), vk = .int .i64 k ∧ i ≤ k ∧ k ≤ m ∧ dk.size = d.size ∧ HoE wr g dk ∧ UpdS (fun x => x = g) W1 wr ∧ Hid (Rot k m (m + 1) d dk) ∧ Hid (PermIn a b d dk)) (fun vk _ => (intOf vk).toNat)
      case atStart => exact ⟨m, d, rfl, hjb, Nat.le_refl _, rfl, HHO.out, HUO.out, Rot.none (Nat.le_refl _) (by omega) (Or.inl rfl), permIn_refl _ _ _⟩
      case round =>
        clear HHO HUO
        obtain ⟨k, dk, rfl, hik, hkm, hds, hH, U, HR, HP⟩ := hrel
        obtain ⟨c0, c1⟩ := HF.out.upd U hgn
        by_cases hk : i < k
        · have hkI : (i : Int) < (k : Int) := by omega
          obtain ⟨q, hq⟩ : ∃ q, k = q + 1 := ⟨k - 1, by omega⟩
          have hq1 : ((q : Nat) : Int) = (k : Int) - 1 := by omega
          have hs := HSW.out (by omega) wr dk hH (by omega) k q (by omega) (by omega)
          rw [hq1] at hs
          have HH2 := Lib.hid (hH.swap (i := k) (j := q) (by omega) (by omega))
          have HU2 := Lib.hid (updS_tr U (updS_tr (setCells_upd (D := fun x => x = g) rfl (rowE dk[q]!) (0 + k * 4) wr) (setCells_upd (D := fun x => x = g) rfl (rowE dk[k]!) (0 + q * 4) _)))
          have HR2 : Hid (Rot q m (m + 1) d (swp dk k q)) := by
            have hr := HR.out
            rw [hq] at hr ⊢
            exact hr.carryL (by omega) (by omega)
          have HP2 := Lib.hid (permIn_swap HP.out (i := k) (j := q) (by omega) (by omega) (by omega) (by omega) (by omega))
          have hsz2 := size_swp dk k q
          have hqk : q + 1 ≤ k ∧ k ≤ q + 1 := by omega
          obtain ⟨wz, hwz⟩ : ∃ wz, (wr.setCells g (0 + k * 4) (rowE dk[q]!)).setCells g (0 + q * 4) (rowE dk[k]!) = wz := ⟨_, rfl⟩
          rw [hwz] at hs HH2 HU2
          obtain ⟨dz, hdz⟩ : ∃ dz, swp dk k q = dz := ⟨_, rfl⟩
          rw [hdz] at HH2 HR2 HP2 hsz2
          clear hwz hdz hH U HR HP hq hq1
          go_wp2
          exact ⟨⟨q, dz, by congr 1; omega, by omega, by omega, hsz2.trans hds, HH2.out, HU2.out, HR2, HP2⟩, by simp [intOf]; omega⟩
        · have hkI : ¬ (i : Int) < (k : Int) := by omega
          have hke : k = i := by omega
          have HX : Hid (SortedIn ltE a b dk) := by
            have hr := HR.out
            rw [hke] at hr
            exact sorted_part (merged_oneR swoE (by omega) (by omega) HS2.out HI.out.1 HI.out.2 hr) (Nat.le_refl _) hmb2
          clear HI hke
          go_wp2
          refine bodyPost_ret (results_none rfl _ _ _) rfl ?_
          exact ⟨rfl, dk, hH, updS_tr HU1.out U, HP.out, HX.out⟩
-- SYMC
set_option maxHeartbeats 32000000 in
set_option maxRecDepth 100000 in
theorem c_symC (gl sf g n : Nat) (lb sb : Array Value) (eg : ∀ args w, (callFunc gl args).run Tryd.prog w = .ok (.enter gl args) w) (w0 : World) (hls : LessE Tryd.prog gl lb w0 g n) (hsw : SwapE Tryd.prog sf sb g n) (hsz : n ≤ 1000000) (N : Nat)
    (ih : ∀ (a m b : Nat) (d : Array Ev) (w : World), b - a ≤ N → a < m → m < b → b ≤ d.size → d.size = n → UpdS (fun x => x = g) w0 w → HoE w g d → g < w.heap.size → SortedIn ltE a m d → SortedIn ltE m b d →
    Calls Tryd.prog 76 #[.agg #[.func (.func gl) #[] lb, .func (.func sf) #[] sb], .int .i64 a, .int .i64 m, .int .i64 b] w fun e w' => e = .returned (.tuple #[]) ∧ ∃ d' : Array Ev, HoE w' g d' ∧ UpdS (fun x => x = g) w w' ∧ PermIn a b d d' ∧ SortedIn ltE a b d')
    (a m b mid : Nat) (d : Array Ev) (w : World) (hN : b - a ≤ N + 1) (ham : a + 2 ≤ m) (hmb : m + 2 ≤ b) (hb : b ≤ d.size) (hdn : d.size = n) (U0 : UpdS (fun x => x = g) w0 w) (hH : HoE w g d) (hg : g < w.heap.size) (hs1 : SortedIn ltE a m d) (hs2 : SortedIn ltE m b d) (hm1 : 2 * mid ≤ a + b) (hm2 : a + b < 2 * mid + 2) (hmm : mid < m) :
    Calls Tryd.prog 76 #[.agg #[.func (.func gl) #[] lb, .func (.func sf) #[] sb], .int .i64 a, .int .i64 m, .int .i64 b] w fun e w' => e = .returned (.tuple #[]) ∧ ∃ d' : Array Ev, HoE w' g d' ∧ UpdS (fun x => x = g) w w' ∧ PermIn a b d d' ∧ SortedIn ltE a b d' := by
  have HIH := Lib.hid ih
  clear ih
  obtain ⟨W1, hW1⟩ : ∃ W1, W1 = w.alloc (.cells #[.func (.func gl) #[] lb, .func (.func sf) #[] sb] 69) := ⟨_, rfl⟩
  have HF : Hid (FnBox W1 w.heap.size gl sf lb sb) := Lib.hid (by rw [hW1]; exact fnBox_new w _ gl sf lb sb)
  have HU1 : Hid (UpdS (fun x => x = g) w W1) := Lib.hid (by rw [hW1]; exact updS_new w _)
  have H1 : Hid (HoE W1 g d) := Lib.hid (by rw [hW1]; exact hH.below ((Below.refl _ _).al _))
  have hgn : w.heap.size ≠ g := by omega
  have hgW : g < W1.heap.size := by rw [hW1]; simp; omega
  have HSW := Lib.hid hsw
  have HLS := Lib.hid hls
  have HU0 := Lib.hid (updS_tr U0 HU1.out)
  have HS := Lib.hid (And.intro hs1 hs2)
  clear hH hsw hls U0 hs1 hs2
  have t1 : ((m : Int) - (a : Int) == 1) = false := by simp; omega
  have t2 : ((b : Int) - (m : Int) == 1) = false := by simp; omega
  have t3 : ((a : Int) + (b : Int)) / 2 < (m : Int) := by omega
  go_enter Tryd.func76, Tryd.ntmps76
  go_wp2_with fail
  rw [← hW1]
  clear hW1
  obtain ⟨bx, hbx⟩ : ∃ bx, w.heap.size = bx := ⟨_, rfl⟩
  rw [hbx] at HF hgn ⊢
  clear hbx
  have hmid : ((a : Int) + (b : Int)) / 2 = (mid : Int) := by omega
  rw [hmid] at t3
  simp only [hmid]
  clear hmid
  go_loopw [18, 19] (fun vi vj wr => ∃ (i j : Nat), vi = .int .i64 i ∧ vj = .int .i64 j ∧ mid + m - b ≤ i ∧ i ≤ j ∧ j ≤ mid ∧ HoE wr g d ∧ UpdS (fun x => x = g) W1 wr ∧ Hid ((mid + m - b < i → ltE d[mid + m - i]! d[i - 1]! = false) ∧ (j < mid → ltE d[mid + m - 1 - j]! d[j]! = true))) (fun vi vj _ => (intOf vj).toNat - (intOf vi).toNat)
  case atStart => exact ⟨mid + m - b, mid, by congr 1; omega, rfl, by omega, by omega, by omega, H1.out, UpdS.refl _ _, ⟨fun h => absurd h (by omega), fun h => absurd h (by omega)⟩⟩
  case round =>
    clear H1
    obtain ⟨i, j, rfl, rfl, hai, hij, hjb, hH, U, HI⟩ := hrel
    obtain ⟨c0, c1⟩ := HF.out.upd U hgn
    by_cases hlt : i < j
    · have hltI : (i : Int) < (j : Int) := by omega
      obtain ⟨h, hh1, hh2⟩ : ∃ h, 2 * h ≤ i + j ∧ i + j < 2 * h + 2 := ⟨(i + j) / 2, by omega, by omega⟩
      have hl := HLS.out wr d (updS_tr HU0.out U) hH hdn (mid + m - 1 - h) h (by omega) (by omega)
      rw [show ((mid + m - 1 - h : Nat) : Int) = (mid : Int) + (m : Int) - 1 - ((i : Int) + (j : Int)) / 2 by omega, show ((h : Nat) : Int) = ((i : Int) + (j : Int)) / 2 by omega] at hl
      go_wp2_with (go_at_fn gl; refine hl.mono ?_; rintro e w3 ⟨rfl, hb3⟩; refine stop_of ?_)
      unfold Stopped
      have hH3 := hH.below hb3
      have U3 := updS_tr U (UpdS.of_below (D := fun x => x = g) hb3)
      cases hlv : ltE d[mid + m - 1 - h]! d[h]!
      · have HX : Hid ((mid + m - b < h + 1 → ltE d[mid + m - (h + 1)]! d[h + 1 - 1]! = false) ∧ (j < mid → ltE d[mid + m - 1 - j]! d[j]! = true)) := ⟨fun _ => by rw [show mid + m - (h + 1) = mid + m - 1 - h by omega]; exact hlv, HI.out.2⟩
        have HP := Lib.hid (And.intro hH3 U3)
        clear hH3 U3 hH U hl hlv HI
        go_wp2
        exact ⟨⟨h + 1, j, by go_num, rfl, by omega, by omega, hjb, HP.out.1, HP.out.2, HX⟩, by simp [intOf]; omega⟩
      · have HX : Hid ((mid + m - b < i → ltE d[mid + m - i]! d[i - 1]! = false) ∧ (h < mid → ltE d[mid + m - 1 - h]! d[h]! = true)) := ⟨HI.out.1, fun _ => hlv⟩
        have HP := Lib.hid (And.intro hH3 U3)
        clear hH3 U3 hH U hl hlv HI
        go_wp2
        exact ⟨⟨i, h, rfl, by congr 1; omega, hai, by omega, by omega, HP.out.1, HP.out.2, HX⟩, by simp [intOf]; omega⟩
    · have hltI : ¬ (i : Int) < (j : Int) := by omega
      obtain ⟨s, hse⟩ : ∃ s, s = i := ⟨_, rfl⟩
      have hie : s = j := by omega
      rw [← hie, ← hse] at HI
      subst hie
      subst hse
      clear hlt
      obtain ⟨en, hen1, hen2⟩ : ∃ en, en + s ≤ mid + m ∧ mid + m ≤ en + s := ⟨mid + m - s, by omega, by omega⟩
      have HLO : Hid (a < s → en < b → ltE d[en]! d[s - 1]! = false) := fun h1 h2 => by
        have h := HI.out.1 (by omega)
        rwa [show mid + m - s = en by omega] at h
      have HHI : Hid (s < m → m < en → ltE d[en - 1]! d[s]! = true) := fun h1 h2 => by
        have h := HI.out.2 (by omega)
        rwa [show mid + m - 1 - s = en - 1 by omega] at h
      clear HI c0 c1
      by_cases hrot : s < mid
      · have hr := c_rotate gl sf g lb sb s m en d wr (by rw [hdn]; exact HSW.out) hH (Nat.lt_of_lt_of_le hgW U.size) (by omega) (by omega) (by omega) (by omega)
        rw [show ((en : Nat) : Int) = (mid : Int) + (m : Int) - (s : Int) by omega] at hr
        have hr1 : (s : Int) < (m : Int) := by omega
        have hr2 : (m : Int) < (mid : Int) + (m : Int) - (s : Int) := by omega
        obtain ⟨c0, c1⟩ := HF.out.upd U hgn
        have HU := Lib.hid U
        clear hH U
        go_wp2_with fail
        refine hr.mono ?_; rintro e w1 ⟨rfl, d1, hH1, U1, hR, p1⟩
        have HHV : Hid (Halved a s mid en b d1) := halved_of (by omega) (by omega) (by omega) (by omega) (by omega) HS.out.1 HS.out.2 HLO.out HHI.out hR
        have HW1 := Lib.hid (And.intro hH1 (updS_tr HU.out U1))
        have HP1 := Lib.hid (permIn_mono _ _ _ _ _ _ (by omega : a ≤ s) (by omega : en ≤ b) (by omega) p1)
        clear hH1 U1 hR p1 hr hr1 hr2 HU c0 c1
        by_cases j1 : a < s
        · obtain ⟨c0, c1⟩ := HF.out.upd HW1.out.2 hgn
          have hl1 : (a : Int) < (s : Int) := by omega
          have hl2 : (s : Int) < (mid : Int) := by omega
          have hm := HIH.out a s mid d1 w1 (by omega) (by omega) (by omega) (by rw [HP1.out.1]; omega) (by rw [HP1.out.1]; exact hdn) (updS_tr HU0.out HW1.out.2) HW1.out.1 (Nat.lt_of_lt_of_le hgW HW1.out.2.size) HHV.out.1 HHV.out.2.1
          go_wp2_with fail
          refine hm.mono ?_; rintro e w2 ⟨rfl, d2, hH2, U2, p2, s2⟩
          have HW2 := Lib.hid (And.intro hH2 (updS_tr HW1.out.2 U2))
          have HP2 := Lib.hid p2
          have HS2 := Lib.hid s2
          clear hH2 U2 p2 s2 hm hl1 hl2 c0 c1
          by_cases k2 : en < b
          · obtain ⟨c0, c1⟩ := HF.out.upd HW2.out.2 hgn
            have hl1 : (mid : Int) < (mid : Int) + (m : Int) - (s : Int) := by omega
            have hl2 : (mid : Int) + (m : Int) - (s : Int) < (b : Int) := by omega
            have hm := HIH.out mid en b d2 w2 (by omega) (by omega) (by omega) (by rw [HP2.out.1, HP1.out.1]; exact hb) (by rw [HP2.out.1, HP1.out.1]; exact hdn) (updS_tr HU0.out HW2.out.2) HW2.out.1 (Nat.lt_of_lt_of_le hgW HW2.out.2.size) (sorted_keep HP2.out (Nat.le_refl _) HHV.out.2.2.1) (sorted_keep HP2.out (by omega) HHV.out.2.2.2.1)
            rw [show ((en : Nat) : Int) = (mid : Int) + (m : Int) - (s : Int) by omega] at hm
            go_wp2_with fail
            refine hm.mono ?_; rintro e w3 ⟨rfl, d3, hH3, U3, p3, s3⟩
            have HX : Hid (HoE w3 g d3 ∧ UpdS (fun x => x = g) w w3 ∧ PermIn a b d d3 ∧ SortedIn ltE a b d3) := ⟨hH3, updS_tr HU1.out (updS_tr HW2.out.2 U3), permIn_trans _ _ _ _ _ HP1.out (permIn_trans _ _ _ _ _ (permIn_mono _ _ _ _ _ _ (by omega) (by omega) (by rw [HP1.out.1]; omega) HP2.out) (permIn_mono _ _ _ _ _ _ (by omega) (by omega) (by rw [HP2.out.1, HP1.out.1]; omega) p3)), merged (by omega) (by omega) (by rw [HP1.out.1]; exact hb) HHV.out.2.2.2.2 HP2.out HS2.out p3 s3⟩
            clear hH3 U3 p3 s3 hm
            go_wp2
            go_end0
            exact ⟨rfl, d3, HX.out⟩
          · have hz1 : (mid : Int) < (mid : Int) + (m : Int) - (s : Int) := by omega
            have hz2 : ¬ (mid : Int) + (m : Int) - (s : Int) < (b : Int) := by omega
            have HX : Hid (HoE w2 g d2 ∧ UpdS (fun x => x = g) w w2 ∧ PermIn a b d d2 ∧ SortedIn ltE a b d2) := ⟨HW2.out.1, updS_tr HU1.out HW2.out.2, permIn_trans _ _ _ _ _ HP1.out (permIn_mono _ _ _ _ _ _ (by omega) (by omega) (by rw [HP1.out.1]; omega) HP2.out), merged (by omega) (by omega) (by rw [HP1.out.1]; exact hb) HHV.out.2.2.2.2 HP2.out HS2.out (permIn_refl _ _ _) (halved_high HHV.out (Or.inr (by omega)) (by omega) (by omega) HP2.out)⟩
            go_wp2
            go_end0
            exact ⟨rfl, d2, HX.out⟩
        · have hy1 : ¬ (a : Int) < (s : Int) := by omega
          obtain ⟨d2, hd2⟩ : ∃ d2, d2 = d1 := ⟨_, rfl⟩
          obtain ⟨w2, hw2⟩ : ∃ w2, w2 = w1 := ⟨_, rfl⟩
          have HW2 : Hid (HoE w2 g d2 ∧ UpdS (fun x => x = g) W1 w2) := by rw [hw2, hd2]; exact HW1
          have HP2 : Hid (PermIn a mid d1 d2) := by rw [hd2]; exact permIn_refl _ _ _
          have HS2 : Hid (SortedIn ltE a mid d2) := by rw [hd2]; exact halved_low HHV.out (Or.inl (by omega)) (by omega) (by omega)
          subst hw2
          clear hd2
          by_cases k2 : en < b
          · obtain ⟨c0, c1⟩ := HF.out.upd HW2.out.2 hgn
            have hl1 : (mid : Int) < (mid : Int) + (m : Int) - (s : Int) := by omega
            have hl2 : (mid : Int) + (m : Int) - (s : Int) < (b : Int) := by omega
            have hm := HIH.out mid en b d2 w2 (by omega) (by omega) (by omega) (by rw [HP2.out.1, HP1.out.1]; exact hb) (by rw [HP2.out.1, HP1.out.1]; exact hdn) (updS_tr HU0.out HW2.out.2) HW2.out.1 (Nat.lt_of_lt_of_le hgW HW2.out.2.size) (sorted_keep HP2.out (Nat.le_refl _) HHV.out.2.2.1) (sorted_keep HP2.out (by omega) HHV.out.2.2.2.1)
            rw [show ((en : Nat) : Int) = (mid : Int) + (m : Int) - (s : Int) by omega] at hm
            go_wp2_with fail
            refine hm.mono ?_; rintro e w3 ⟨rfl, d3, hH3, U3, p3, s3⟩
            have HX : Hid (HoE w3 g d3 ∧ UpdS (fun x => x = g) w w3 ∧ PermIn a b d d3 ∧ SortedIn ltE a b d3) := ⟨hH3, updS_tr HU1.out (updS_tr HW2.out.2 U3), permIn_trans _ _ _ _ _ HP1.out (permIn_trans _ _ _ _ _ (permIn_mono _ _ _ _ _ _ (by omega) (by omega) (by rw [HP1.out.1]; omega) HP2.out) (permIn_mono _ _ _ _ _ _ (by omega) (by omega) (by rw [HP2.out.1, HP1.out.1]; omega) p3)), merged (by omega) (by omega) (by rw [HP1.out.1]; exact hb) HHV.out.2.2.2.2 HP2.out HS2.out p3 s3⟩
            clear hH3 U3 p3 s3 hm
            go_wp2
            go_end0
            exact ⟨rfl, d3, HX.out⟩
          · have hz1 : (mid : Int) < (mid : Int) + (m : Int) - (s : Int) := by omega
            have hz2 : ¬ (mid : Int) + (m : Int) - (s : Int) < (b : Int) := by omega
            have HX : Hid (HoE w2 g d2 ∧ UpdS (fun x => x = g) w w2 ∧ PermIn a b d d2 ∧ SortedIn ltE a b d2) := ⟨HW2.out.1, updS_tr HU1.out HW2.out.2, permIn_trans _ _ _ _ _ HP1.out (permIn_mono _ _ _ _ _ _ (by omega) (by omega) (by rw [HP1.out.1]; omega) HP2.out), merged (by omega) (by omega) (by rw [HP1.out.1]; exact hb) HHV.out.2.2.2.2 HP2.out HS2.out (permIn_refl _ _ _) (halved_high HHV.out (Or.inr (by omega)) (by omega) (by omega) HP2.out)⟩
            go_wp2
            go_end0
            exact ⟨rfl, d2, HX.out⟩
      · obtain ⟨d1, hd1⟩ : ∃ d1, d1 = d := ⟨_, rfl⟩
        obtain ⟨w1, hw1⟩ : ∃ w1, w1 = wr := ⟨_, rfl⟩
        have hr1 : (s : Int) < (m : Int) := by omega
        have hr2 : ¬ (m : Int) < (mid : Int) + (m : Int) - (s : Int) := by omega
        have HHV : Hid (Halved a s mid en b d1) := by rw [hd1]; exact halved_of (by omega) (by omega) (by omega) (by omega) (by omega) HS.out.1 HS.out.2 HLO.out HHI.out (Rot.none (by omega) (by omega) (by omega))
        have HW1 : Hid (HoE w1 g d1 ∧ UpdS (fun x => x = g) W1 w1) := by rw [hw1, hd1]; exact ⟨hH, U⟩
        have HP1 : Hid (PermIn a b d d1) := by rw [hd1]; exact permIn_refl _ _ _
        subst hw1
        clear hd1 hH U
        have hy1 : (a : Int) < (s : Int) := by omega
        have hy2 : ¬ (s : Int) < (mid : Int) := by omega
        obtain ⟨d2, hd2⟩ : ∃ d2, d2 = d1 := ⟨_, rfl⟩
        obtain ⟨w2, hw2⟩ : ∃ w2, w2 = w1 := ⟨_, rfl⟩
        have HW2 : Hid (HoE w2 g d2 ∧ UpdS (fun x => x = g) W1 w2) := by rw [hw2, hd2]; exact HW1
        have HP2 : Hid (PermIn a mid d1 d2) := by rw [hd2]; exact permIn_refl _ _ _
        have HS2 : Hid (SortedIn ltE a mid d2) := by rw [hd2]; exact halved_low HHV.out (Or.inr (by omega)) (by omega) (by omega)
        subst hw2
        clear hd2
        by_cases k2 : en < b
        · obtain ⟨c0, c1⟩ := HF.out.upd HW2.out.2 hgn
          have hl1 : (mid : Int) < (mid : Int) + (m : Int) - (s : Int) := by omega
          have hl2 : (mid : Int) + (m : Int) - (s : Int) < (b : Int) := by omega
          have hm := HIH.out mid en b d2 w2 (by omega) (by omega) (by omega) (by rw [HP2.out.1, HP1.out.1]; exact hb) (by rw [HP2.out.1, HP1.out.1]; exact hdn) (updS_tr HU0.out HW2.out.2) HW2.out.1 (Nat.lt_of_lt_of_le hgW HW2.out.2.size) (sorted_keep HP2.out (Nat.le_refl _) HHV.out.2.2.1) (sorted_keep HP2.out (by omega) HHV.out.2.2.2.1)
          rw [show ((en : Nat) : Int) = (mid : Int) + (m : Int) - (s : Int) by omega] at hm
          go_wp2_with fail
          refine hm.mono ?_; rintro e w3 ⟨rfl, d3, hH3, U3, p3, s3⟩
          have HX : Hid (HoE w3 g d3 ∧ UpdS (fun x => x = g) w w3 ∧ PermIn a b d d3 ∧ SortedIn ltE a b d3) := ⟨hH3, updS_tr HU1.out (updS_tr HW2.out.2 U3), permIn_trans _ _ _ _ _ HP1.out (permIn_trans _ _ _ _ _ (permIn_mono _ _ _ _ _ _ (by omega) (by omega) (by rw [HP1.out.1]; omega) HP2.out) (permIn_mono _ _ _ _ _ _ (by omega) (by omega) (by rw [HP2.out.1, HP1.out.1]; omega) p3)), merged (by omega) (by omega) (by rw [HP1.out.1]; exact hb) HHV.out.2.2.2.2 HP2.out HS2.out p3 s3⟩
          clear hH3 U3 p3 s3 hm
          go_wp2
          go_end0
          exact ⟨rfl, d3, HX.out⟩
        · have hz1 : (mid : Int) < (mid : Int) + (m : Int) - (s : Int) := by omega
          have hz2 : ¬ (mid : Int) + (m : Int) - (s : Int) < (b : Int) := by omega
          have HX : Hid (HoE w2 g d2 ∧ UpdS (fun x => x = g) w w2 ∧ PermIn a b d d2 ∧ SortedIn ltE a b d2) := ⟨HW2.out.1, updS_tr HU1.out HW2.out.2, permIn_trans _ _ _ _ _ HP1.out (permIn_mono _ _ _ _ _ _ (by omega) (by omega) (by rw [HP1.out.1]; omega) HP2.out), merged (by omega) (by omega) (by rw [HP1.out.1]; exact hb) HHV.out.2.2.2.2 HP2.out HS2.out (permIn_refl _ _ _) (halved_high HHV.out (Or.inr (by omega)) (by omega) (by omega) HP2.out)⟩
          go_wp2
          go_end0
          exact ⟨rfl, d2, HX.out⟩
-- SYMD
set_option maxHeartbeats 32000000 in
set_option maxRecDepth 100000 in
theorem c_symD (gl sf g n : Nat) (lb sb : Array Value) (eg : ∀ args w, (callFunc gl args).run Tryd.prog w = .ok (.enter gl args) w) (w0 : World) (hls : LessE Tryd.prog gl lb w0 g n) (hsw : SwapE Tryd.prog sf sb g n) (hsz : n ≤ 1000000) (N : Nat)
    (ih : ∀ (a m b : Nat) (d : Array Ev) (w : World), b - a ≤ N → a < m → m < b → b ≤ d.size → d.size = n → UpdS (fun x => x = g) w0 w → HoE w g d → g < w.heap.size → SortedIn ltE a m d → SortedIn ltE m b d →
    Calls Tryd.prog 76 #[.agg #[.func (.func gl) #[] lb, .func (.func sf) #[] sb], .int .i64 a, .int .i64 m, .int .i64 b] w fun e w' => e = .returned (.tuple #[]) ∧ ∃ d' : Array Ev, HoE w' g d' ∧ UpdS (fun x => x = g) w w' ∧ PermIn a b d d' ∧ SortedIn ltE a b d')
    (a m b mid : Nat) (d : Array Ev) (w : World) (hN : b - a ≤ N + 1) (ham : a + 2 ≤ m) (hmb : m + 2 ≤ b) (hb : b ≤ d.size) (hdn : d.size = n) (U0 : UpdS (fun x => x = g) w0 w) (hH : HoE w g d) (hg : g < w.heap.size) (hs1 : SortedIn ltE a m d) (hs2 : SortedIn ltE m b d) (hm1 : 2 * mid ≤ a + b) (hm2 : a + b < 2 * mid + 2) (hmm : m ≤ mid) :
    Calls Tryd.prog 76 #[.agg #[.func (.func gl) #[] lb, .func (.func sf) #[] sb], .int .i64 a, .int .i64 m, .int .i64 b] w fun e w' => e = .returned (.tuple #[]) ∧ ∃ d' : Array Ev, HoE w' g d' ∧ UpdS (fun x => x = g) w w' ∧ PermIn a b d d' ∧ SortedIn ltE a b d' := by
  have HIH := Lib.hid ih
  clear ih
  obtain ⟨W1, hW1⟩ : ∃ W1, W1 = w.alloc (.cells #[.func (.func gl) #[] lb, .func (.func sf) #[] sb] 69) := ⟨_, rfl⟩
  have HF : Hid (FnBox W1 w.heap.size gl sf lb sb) := Lib.hid (by rw [hW1]; exact fnBox_new w _ gl sf lb sb)
  have HU1 : Hid (UpdS (fun x => x = g) w W1) := Lib.hid (by rw [hW1]; exact updS_new w _)
  have H1 : Hid (HoE W1 g d) := Lib.hid (by rw [hW1]; exact hH.below ((Below.refl _ _).al _))
  have hgn : w.heap.size ≠ g := by omega
  have hgW : g < W1.heap.size := by rw [hW1]; simp; omega
  have HSW := Lib.hid hsw
  have HLS := Lib.hid hls
  have HU0 := Lib.hid (updS_tr U0 HU1.out)
  have HS := Lib.hid (And.intro hs1 hs2)
  clear hH hsw hls U0 hs1 hs2
  have t1 : ((m : Int) - (a : Int) == 1) = false := by simp; omega
  have t2 : ((b : Int) - (m : Int) == 1) = false := by simp; omega
  have t3 : ¬ ((a : Int) + (b : Int)) / 2 < (m : Int) := by omega
  go_enter Tryd.func76, Tryd.ntmps76
  go_wp2_with fail
  rw [← hW1]
  clear hW1
  obtain ⟨bx, hbx⟩ : ∃ bx, w.heap.size = bx := ⟨_, rfl⟩
  rw [hbx] at HF hgn ⊢
  clear hbx
  have hmid : ((a : Int) + (b : Int)) / 2 = (mid : Int) := by omega
  rw [hmid] at t3
  simp only [hmid]
  clear hmid
  go_loopw [18, 19] (fun vi vj wr => ∃ (i j : Nat), vi = .int .i64 i ∧ vj = .int .i64 j ∧ a ≤ i ∧ i ≤ j ∧ j ≤ m ∧ HoE wr g d ∧ UpdS (fun x => x = g) W1 wr ∧ Hid ((a < i → ltE d[mid + m - i]! d[i - 1]! = false) ∧ (j < m → ltE d[mid + m - 1 - j]! d[j]! = true))) (fun vi vj _ => (intOf vj).toNat - (intOf vi).toNat)
  case atStart => exact ⟨a, m, rfl, rfl, by omega, by omega, by omega, H1.out, UpdS.refl _ _, ⟨fun h => absurd h (by omega), fun h => absurd h (by omega)⟩⟩
  case round =>
    clear H1
    obtain ⟨i, j, rfl, rfl, hai, hij, hjb, hH, U, HI⟩ := hrel
    obtain ⟨c0, c1⟩ := HF.out.upd U hgn
    by_cases hlt : i < j
    · have hltI : (i : Int) < (j : Int) := by omega
      obtain ⟨h, hh1, hh2⟩ : ∃ h, 2 * h ≤ i + j ∧ i + j < 2 * h + 2 := ⟨(i + j) / 2, by omega, by omega⟩
      have hl := HLS.out wr d (updS_tr HU0.out U) hH hdn (mid + m - 1 - h) h (by omega) (by omega)
      rw [show ((mid + m - 1 - h : Nat) : Int) = (mid : Int) + (m : Int) - 1 - ((i : Int) + (j : Int)) / 2 by omega, show ((h : Nat) : Int) = ((i : Int) + (j : Int)) / 2 by omega] at hl
      go_wp2_with (go_at_fn gl; refine hl.mono ?_; rintro e w3 ⟨rfl, hb3⟩; refine stop_of ?_)
      unfold Stopped
      have hH3 := hH.below hb3
      have U3 := updS_tr U (UpdS.of_below (D := fun x => x = g) hb3)
      cases hlv : ltE d[mid + m - 1 - h]! d[h]!
      · have HX : Hid ((a < h + 1 → ltE d[mid + m - (h + 1)]! d[h + 1 - 1]! = false) ∧ (j < m → ltE d[mid + m - 1 - j]! d[j]! = true)) := ⟨fun _ => by rw [show mid + m - (h + 1) = mid + m - 1 - h by omega]; exact hlv, HI.out.2⟩
        have HP := Lib.hid (And.intro hH3 U3)
        clear hH3 U3 hH U hl hlv HI
        go_wp2
        exact ⟨⟨h + 1, j, by go_num, rfl, by omega, by omega, hjb, HP.out.1, HP.out.2, HX⟩, by simp [intOf]; omega⟩
      · have HX : Hid ((a < i → ltE d[mid + m - i]! d[i - 1]! = false) ∧ (h < m → ltE d[mid + m - 1 - h]! d[h]! = true)) := ⟨HI.out.1, fun _ => hlv⟩
        have HP := Lib.hid (And.intro hH3 U3)
        clear hH3 U3 hH U hl hlv HI
        go_wp2
        exact ⟨⟨i, h, rfl, by congr 1; omega, hai, by omega, by omega, HP.out.1, HP.out.2, HX⟩, by simp [intOf]; omega⟩
    · have hltI : ¬ (i : Int) < (j : Int) := by omega
      obtain ⟨s, hse⟩ : ∃ s, s = i := ⟨_, rfl⟩
      have hie : s = j := by omega
      rw [← hie, ← hse] at HI
      subst hie
      subst hse
      clear hlt
      obtain ⟨en, hen1, hen2⟩ : ∃ en, en + s ≤ mid + m ∧ mid + m ≤ en + s := ⟨mid + m - s, by omega, by omega⟩
      have HLO : Hid (a < s → en < b → ltE d[en]! d[s - 1]! = false) := fun h1 h2 => by
        have h := HI.out.1 (by omega)
        rwa [show mid + m - s = en by omega] at h
      have HHI : Hid (s < m → m < en → ltE d[en - 1]! d[s]! = true) := fun h1 h2 => by
        have h := HI.out.2 (by omega)
        rwa [show mid + m - 1 - s = en - 1 by omega] at h
      clear HI c0 c1
      by_cases hrot : s < m
      · have hr := c_rotate gl sf g lb sb s m en d wr (by rw [hdn]; exact HSW.out) hH (Nat.lt_of_lt_of_le hgW U.size) (by omega) (by omega) (by omega) (by omega)
        rw [show ((en : Nat) : Int) = (mid : Int) + (m : Int) - (s : Int) by omega] at hr
        have hr1 : (s : Int) < (m : Int) := by omega
        have hr2 : (m : Int) < (mid : Int) + (m : Int) - (s : Int) := by omega
        obtain ⟨c0, c1⟩ := HF.out.upd U hgn
        have HU := Lib.hid U
        clear hH U
        go_wp2_with fail
        refine hr.mono ?_; rintro e w1 ⟨rfl, d1, hH1, U1, hR, p1⟩
        have HHV : Hid (Halved a s mid en b d1) := halved_of (by omega) (by omega) (by omega) (by omega) (by omega) HS.out.1 HS.out.2 HLO.out HHI.out hR
        have HW1 := Lib.hid (And.intro hH1 (updS_tr HU.out U1))
        have HP1 := Lib.hid (permIn_mono _ _ _ _ _ _ (by omega : a ≤ s) (by omega : en ≤ b) (by omega) p1)
        clear hH1 U1 hR p1 hr hr1 hr2 HU c0 c1
        by_cases j1 : a < s
        · obtain ⟨c0, c1⟩ := HF.out.upd HW1.out.2 hgn
          have hl1 : (a : Int) < (s : Int) := by omega
          have hl2 : (s : Int) < (mid : Int) := by omega
          have hm := HIH.out a s mid d1 w1 (by omega) (by omega) (by omega) (by rw [HP1.out.1]; omega) (by rw [HP1.out.1]; exact hdn) (updS_tr HU0.out HW1.out.2) HW1.out.1 (Nat.lt_of_lt_of_le hgW HW1.out.2.size) HHV.out.1 HHV.out.2.1
          go_wp2_with fail
          refine hm.mono ?_; rintro e w2 ⟨rfl, d2, hH2, U2, p2, s2⟩
          have HW2 := Lib.hid (And.intro hH2 (updS_tr HW1.out.2 U2))
          have HP2 := Lib.hid p2
          have HS2 := Lib.hid s2
          clear hH2 U2 p2 s2 hm hl1 hl2 c0 c1
          obtain ⟨c0, c1⟩ := HF.out.upd HW2.out.2 hgn
          have k2 : en < b := by omega
          have hl1 : (mid : Int) < (mid : Int) + (m : Int) - (s : Int) := by omega
          have hl2 : (mid : Int) + (m : Int) - (s : Int) < (b : Int) := by omega
          have hm := HIH.out mid en b d2 w2 (by omega) (by omega) (by omega) (by rw [HP2.out.1, HP1.out.1]; exact hb) (by rw [HP2.out.1, HP1.out.1]; exact hdn) (updS_tr HU0.out HW2.out.2) HW2.out.1 (Nat.lt_of_lt_of_le hgW HW2.out.2.size) (sorted_keep HP2.out (Nat.le_refl _) HHV.out.2.2.1) (sorted_keep HP2.out (by omega) HHV.out.2.2.2.1)
          rw [show ((en : Nat) : Int) = (mid : Int) + (m : Int) - (s : Int) by omega] at hm
          go_wp2_with fail
          refine hm.mono ?_; rintro e w3 ⟨rfl, d3, hH3, U3, p3, s3⟩
          have HX : Hid (HoE w3 g d3 ∧ UpdS (fun x => x = g) w w3 ∧ PermIn a b d d3 ∧ SortedIn ltE a b d3) := ⟨hH3, updS_tr HU1.out (updS_tr HW2.out.2 U3), permIn_trans _ _ _ _ _ HP1.out (permIn_trans _ _ _ _ _ (permIn_mono _ _ _ _ _ _ (by omega) (by omega) (by rw [HP1.out.1]; omega) HP2.out) (permIn_mono _ _ _ _ _ _ (by omega) (by omega) (by rw [HP2.out.1, HP1.out.1]; omega) p3)), merged (by omega) (by omega) (by rw [HP1.out.1]; exact hb) HHV.out.2.2.2.2 HP2.out HS2.out p3 s3⟩
          clear hH3 U3 p3 s3 hm
          go_wp2
          go_end0
          exact ⟨rfl, d3, HX.out⟩
        · have hy1 : ¬ (a : Int) < (s : Int) := by omega
          obtain ⟨d2, hd2⟩ : ∃ d2, d2 = d1 := ⟨_, rfl⟩
          obtain ⟨w2, hw2⟩ : ∃ w2, w2 = w1 := ⟨_, rfl⟩
          have HW2 : Hid (HoE w2 g d2 ∧ UpdS (fun x => x = g) W1 w2) := by rw [hw2, hd2]; exact HW1
          have HP2 : Hid (PermIn a mid d1 d2) := by rw [hd2]; exact permIn_refl _ _ _
          have HS2 : Hid (SortedIn ltE a mid d2) := by rw [hd2]; exact halved_low HHV.out (Or.inl (by omega)) (by omega) (by omega)
          subst hw2
          clear hd2
          by_cases k2 : en < b
          · obtain ⟨c0, c1⟩ := HF.out.upd HW2.out.2 hgn
            have hl1 : (mid : Int) < (mid : Int) + (m : Int) - (s : Int) := by omega
            have hl2 : (mid : Int) + (m : Int) - (s : Int) < (b : Int) := by omega
            have hm := HIH.out mid en b d2 w2 (by omega) (by omega) (by omega) (by rw [HP2.out.1, HP1.out.1]; exact hb) (by rw [HP2.out.1, HP1.out.1]; exact hdn) (updS_tr HU0.out HW2.out.2) HW2.out.1 (Nat.lt_of_lt_of_le hgW HW2.out.2.size) (sorted_keep HP2.out (Nat.le_refl _) HHV.out.2.2.1) (sorted_keep HP2.out (by omega) HHV.out.2.2.2.1)
            rw [show ((en : Nat) : Int) = (mid : Int) + (m : Int) - (s : Int) by omega] at hm
            go_wp2_with fail
            refine hm.mono ?_; rintro e w3 ⟨rfl, d3, hH3, U3, p3, s3⟩
            have HX : Hid (HoE w3 g d3 ∧ UpdS (fun x => x = g) w w3 ∧ PermIn a b d d3 ∧ SortedIn ltE a b d3) := ⟨hH3, updS_tr HU1.out (updS_tr HW2.out.2 U3), permIn_trans _ _ _ _ _ HP1.out (permIn_trans _ _ _ _ _ (permIn_mono _ _ _ _ _ _ (by omega) (by omega) (by rw [HP1.out.1]; omega) HP2.out) (permIn_mono _ _ _ _ _ _ (by omega) (by omega) (by rw [HP2.out.1, HP1.out.1]; omega) p3)), merged (by omega) (by omega) (by rw [HP1.out.1]; exact hb) HHV.out.2.2.2.2 HP2.out HS2.out p3 s3⟩
            clear hH3 U3 p3 s3 hm
            go_wp2
            go_end0
            exact ⟨rfl, d3, HX.out⟩
          · have hz1 : (mid : Int) < (mid : Int) + (m : Int) - (s : Int) := by omega
            have hz2 : ¬ (mid : Int) + (m : Int) - (s : Int) < (b : Int) := by omega
            have HX : Hid (HoE w2 g d2 ∧ UpdS (fun x => x = g) w w2 ∧ PermIn a b d d2 ∧ SortedIn ltE a b d2) := ⟨HW2.out.1, updS_tr HU1.out HW2.out.2, permIn_trans _ _ _ _ _ HP1.out (permIn_mono _ _ _ _ _ _ (by omega) (by omega) (by rw [HP1.out.1]; omega) HP2.out), merged (by omega) (by omega) (by rw [HP1.out.1]; exact hb) HHV.out.2.2.2.2 HP2.out HS2.out (permIn_refl _ _ _) (halved_high HHV.out (Or.inr (by omega)) (by omega) (by omega) HP2.out)⟩
            go_wp2
            go_end0
            exact ⟨rfl, d2, HX.out⟩
      · obtain ⟨d1, hd1⟩ : ∃ d1, d1 = d := ⟨_, rfl⟩
        obtain ⟨w1, hw1⟩ : ∃ w1, w1 = wr := ⟨_, rfl⟩
        have hr1 : ¬ (s : Int) < (m : Int) := by omega
        have HHV : Hid (Halved a s mid en b d1) := by rw [hd1]; exact halved_of (by omega) (by omega) (by omega) (by omega) (by omega) HS.out.1 HS.out.2 HLO.out HHI.out (Rot.none (by omega) (by omega) (by omega))
        have HW1 : Hid (HoE w1 g d1 ∧ UpdS (fun x => x = g) W1 w1) := by rw [hw1, hd1]; exact ⟨hH, U⟩
        have HP1 : Hid (PermIn a b d d1) := by rw [hd1]; exact permIn_refl _ _ _
        subst hw1
        clear hd1 hH U
        by_cases j2 : s < mid
        · obtain ⟨c0, c1⟩ := HF.out.upd HW1.out.2 hgn
          have hl1 : (a : Int) < (s : Int) := by omega
          have hl2 : (s : Int) < (mid : Int) := by omega
          have hm := HIH.out a s mid d1 w1 (by omega) (by omega) (by omega) (by rw [HP1.out.1]; omega) (by rw [HP1.out.1]; exact hdn) (updS_tr HU0.out HW1.out.2) HW1.out.1 (Nat.lt_of_lt_of_le hgW HW1.out.2.size) HHV.out.1 HHV.out.2.1
          go_wp2_with fail
          refine hm.mono ?_; rintro e w2 ⟨rfl, d2, hH2, U2, p2, s2⟩
          have HW2 := Lib.hid (And.intro hH2 (updS_tr HW1.out.2 U2))
          have HP2 := Lib.hid p2
          have HS2 := Lib.hid s2
          clear hH2 U2 p2 s2 hm hl1 hl2 c0 c1
          have hz1 : ¬ (mid : Int) < (mid : Int) + (m : Int) - (s : Int) := by omega
          have HX : Hid (HoE w2 g d2 ∧ UpdS (fun x => x = g) w w2 ∧ PermIn a b d d2 ∧ SortedIn ltE a b d2) := ⟨HW2.out.1, updS_tr HU1.out HW2.out.2, permIn_trans _ _ _ _ _ HP1.out (permIn_mono _ _ _ _ _ _ (by omega) (by omega) (by rw [HP1.out.1]; omega) HP2.out), merged (by omega) (by omega) (by rw [HP1.out.1]; exact hb) HHV.out.2.2.2.2 HP2.out HS2.out (permIn_refl _ _ _) (halved_high HHV.out (Or.inl (by omega)) (by omega) (by omega) HP2.out)⟩
          go_wp2
          go_end0
          exact ⟨rfl, d2, HX.out⟩
        · have hy1 : (a : Int) < (s : Int) := by omega
          have hy2 : ¬ (s : Int) < (mid : Int) := by omega
          obtain ⟨d2, hd2⟩ : ∃ d2, d2 = d1 := ⟨_, rfl⟩
          obtain ⟨w2, hw2⟩ : ∃ w2, w2 = w1 := ⟨_, rfl⟩
          have HW2 : Hid (HoE w2 g d2 ∧ UpdS (fun x => x = g) W1 w2) := by rw [hw2, hd2]; exact HW1
          have HP2 : Hid (PermIn a mid d1 d2) := by rw [hd2]; exact permIn_refl _ _ _
          have HS2 : Hid (SortedIn ltE a mid d2) := by rw [hd2]; exact halved_low HHV.out (Or.inr (by omega)) (by omega) (by omega)
          subst hw2
          clear hd2
          have hz1 : ¬ (mid : Int) < (mid : Int) + (m : Int) - (s : Int) := by omega
          have HX : Hid (HoE w2 g d2 ∧ UpdS (fun x => x = g) w w2 ∧ PermIn a b d d2 ∧ SortedIn ltE a b d2) := ⟨HW2.out.1, updS_tr HU1.out HW2.out.2, permIn_trans _ _ _ _ _ HP1.out (permIn_mono _ _ _ _ _ _ (by omega) (by omega) (by rw [HP1.out.1]; omega) HP2.out), merged (by omega) (by omega) (by rw [HP1.out.1]; exact hb) HHV.out.2.2.2.2 HP2.out HS2.out (permIn_refl _ _ _) (halved_high HHV.out (Or.inl (by omega)) (by omega) (by omega) HP2.out)⟩
          go_wp2
          go_end0
          exact ⟨rfl, d2, HX.out⟩
theorem c_symMerge (gl sf g n : Nat) (lb sb : Array Value) (eg : ∀ args w, (callFunc gl args).run Tryd.prog w = .ok (.enter gl args) w) (w0 : World) (hls : LessE Tryd.prog gl lb w0 g n) (hsw : SwapE Tryd.prog sf sb g n) (hsz : n ≤ 1000000) (N : Nat) :
    ∀ (a m b : Nat) (d : Array Ev) (w : World), b - a ≤ N → a < m → m < b → b ≤ d.size → d.size = n → UpdS (fun x => x = g) w0 w → HoE w g d → g < w.heap.size → SortedIn ltE a m d → SortedIn ltE m b d →
    Calls Tryd.prog 76 #[.agg #[.func (.func gl) #[] lb, .func (.func sf) #[] sb], .int .i64 a, .int .i64 m, .int .i64 b] w fun e w' => e = .returned (.tuple #[]) ∧ ∃ d' : Array Ev, HoE w' g d' ∧ UpdS (fun x => x = g) w w' ∧ PermIn a b d d' ∧ SortedIn ltE a b d' := by
  induction N with
  | zero => intro a m b d w h1 h2 h3; omega
  | succ N ih =>
    intro a m b d w hN ham hmb hb hdn U0 hH hg hs1 hs2
    by_cases h1 : m ≤ a + 1
    · exact c_symA gl sf g n lb sb eg w0 hls hsw hsz a m b d w h1 ham hmb hb hdn U0 hH hg hs2
    · by_cases h2 : b ≤ m + 1
      · exact c_symB gl sf g n lb sb eg w0 hls hsw hsz a m b d w (by omega) hmb h2 hb hdn U0 hH hg hs1
      · by_cases h3 : (a + b) / 2 < m
        · exact c_symC gl sf g n lb sb eg w0 hls hsw hsz N ih a m b ((a + b) / 2) d w hN (by omega) (by omega) hb hdn U0 hH hg hs1 hs2 (by omega) (by omega) h3
        · exact c_symD gl sf g n lb sb eg w0 hls hsw hsz N ih a m b ((a + b) / 2) d w hN (by omega) (by omega) hb hdn U0 hH hg hs1 hs2 (by omega) (by omega) (by omega)
end Go.Proofs.YtgcmnpimkfmccaaDoor
end
section
namespace Go.Proofs.YtgcmnpimkfmccaaDoor
open Go.ChangeShapes Go.WideShapes Go.ChangeAt Go.RowKit Go.Sort
set_option linter.unusedSimpArgs false
set_option linter.unusedVariables false
/-- from place a on the row consists of sorted runs of bs elements; the last one may be shorter -/
inductive Runs (bs n : Nat) (d : Array Ev) : Nat → Prop
  | last (a : Nat) (h1 : a ≤ n) (h2 : n ≤ a + bs) (h3 : SortedIn ltE a n d) : Runs bs n d a
  | step (a : Nat) (h1 : a + bs ≤ n) (h2 : SortedIn ltE a (a + bs) d) (h3 : Runs bs n d (a + bs)) : Runs bs n d a
theorem sorted_agree {a b : Nat} {d d' : Array Ev} (h : SortedIn ltE a b d) (e : ∀ x, a ≤ x → x < b → d'[x]! = d[x]!) : SortedIn ltE a b d' := fun i j hi hij hj => by
  rw [e i hi (by omega), e j (by omega) hj]; exact h i j hi hij hj
theorem Runs.keep {bs n a : Nat} {d d' : Array Ev} (h : Runs bs n d a) (e : ∀ x, a ≤ x → d'[x]! = d[x]!) : Runs bs n d' a := by
  induction h with
  | last a h1 h2 h3 => exact .last a h1 h2 (sorted_agree h3 (fun x hx _ => e x hx))
  | step a h1 h2 h3 ih => exact .step a h1 (sorted_agree h2 (fun x hx _ => e x hx)) (ih (fun x hx => e x (by omega)))
/-- the runs ahead of a are laid -/
def Laid (bs n a : Nat) (d : Array Ev) : Prop := ∀ d' : Array Ev, (∀ x, x < a → d'[x]! = d[x]!) → Runs bs n d' a → Runs bs n d' 0
theorem Laid.zero (bs n : Nat) (d : Array Ev) : Laid bs n 0 d := fun _ _ h => h
theorem Laid.step {bs n a b : Nat} {d d1 : Array Ev} (h : Laid bs n a d) (hb1 : b ≤ a + bs) (hb2 : a + bs ≤ b) (hbn : b ≤ n) (p : PermIn a b d d1) (s : SortedIn ltE a b d1) : Laid bs n b d1 := fun d' e hr => by
  have hbe : b = a + bs := by omega
  subst hbe
  exact h d' (fun x hx => by rw [e x (by omega), p.2.1 x (Or.inl hx)]) (.step a hbn (sorted_agree s (fun x _ hx => e x hx)) hr)
theorem Laid.done {bs n a : Nat} {d d1 : Array Ev} (h : Laid bs n a d) (han : a ≤ n) (hn : n ≤ a + bs) (p : PermIn a n d d1) (s : SortedIn ltE a n d1) : Runs bs n d1 0 :=
  h d1 (fun x hx => p.2.1 x (Or.inl hx)) (.last a han hn s)
theorem Runs.two {bs n a : Nat} {d : Array Ev} (h : Runs bs n d a) (h0 : 0 < bs) (hn : a + 2 * bs ≤ n) : SortedIn ltE a (a + bs) d ∧ SortedIn ltE (a + bs) (a + 2 * bs) d ∧ Runs bs n d (a + 2 * bs) := by
  cases h with
  | last _ h1 h2 h3 => omega
  | step _ h1 h2 h3 =>
    cases h3 with
    | last _ k1 k2 k3 =>
      have e : a + 2 * bs = n := by omega
      exact ⟨h2, by rw [e]; exact k3, .last _ (by omega) (by omega) (fun i j hi hij hj => by omega)⟩
    | step _ k1 k2 k3 =>
      have e : a + bs + bs = a + 2 * bs := by omega
      rw [e] at k2 k3
      exact ⟨h2, k2, k3⟩
theorem Runs.tail2 {bs n a : Nat} {d : Array Ev} (h : Runs bs n d a) (h0 : 0 < bs) (hn : n < a + 2 * bs) (hm : a + bs < n) : SortedIn ltE a (a + bs) d ∧ SortedIn ltE (a + bs) n d := by
  cases h with
  | last _ h1 h2 h3 => omega
  | step _ h1 h2 h3 =>
    cases h3 with
    | last _ k1 k2 k3 => exact ⟨h2, k3⟩
    | step _ k1 k2 k3 => omega
theorem Runs.tail1 {bs n a : Nat} {d : Array Ev} (h : Runs bs n d a) (hm : n ≤ a + bs) : SortedIn ltE a n d := by
  cases h with
  | last _ h1 h2 h3 => exact h3
  | step _ h1 h2 h3 => exact sorted_part h2 (Nat.le_refl _) hm
theorem Runs.le {bs n a : Nat} {d : Array Ev} (h : Runs bs n d a) : a ≤ n := by
  cases h with
  | last _ h1 h2 h3 => exact h1
  | step _ h1 h2 h3 => omega
set_option maxHeartbeats 16000000 in
set_option maxRecDepth 100000 in
theorem c_stable (gl sf g n : Nat) (lb sb : Array Value) (eg : ∀ args w, (callFunc gl args).run Tryd.prog w = .ok (.enter gl args) w) (d : Array Ev) (w : World) (hls : LessE Tryd.prog gl lb w g n) (hsw : SwapE Tryd.prog sf sb g n) (hsz : n ≤ 1000000) (hdn : d.size = n) (hH : HoE w g d) (hg : g < w.heap.size) :
    Calls Tryd.prog 47 #[.agg #[.func (.func gl) #[] lb, .func (.func sf) #[] sb], .int .i64 n] w fun e w' => e = .returned (.tuple #[]) ∧ ∃ d' : Array Ev, HoE w' g d' ∧ UpdS (fun x => x = g) w w' ∧ PermIn 0 n d d' ∧ SortedIn ltE 0 n d' := by
  obtain ⟨W1, hW1⟩ : ∃ W1, W1 = w.alloc (.cells #[.func (.func gl) #[] lb, .func (.func sf) #[] sb] 69) := ⟨_, rfl⟩
  have HF : Hid (FnBox W1 w.heap.size gl sf lb sb) := Lib.hid (by rw [hW1]; exact fnBox_new w _ gl sf lb sb)
  have HU1 : Hid (UpdS (fun x => x = g) w W1) := Lib.hid (by rw [hW1]; exact updS_new w _)
  have H1 : Hid (HoE W1 g d) := Lib.hid (by rw [hW1]; exact hH.below ((Below.refl _ _).al _))
  have hgn : w.heap.size ≠ g := by omega
  have hgW : g < W1.heap.size := by rw [hW1]; simp; omega
  have HSW := Lib.hid hsw
  have HLS := Lib.hid hls
  clear hH hsw hls
  go_enter Tryd.func47, Tryd.ntmps47
  go_wp2_with fail
  rw [← hW1]
  clear hW1
  obtain ⟨bx, hbx⟩ : ∃ bx, w.heap.size = bx := ⟨_, rfl⟩
  rw [hbx] at HF hgn ⊢
  clear hbx
  go_loopw [5, 6] (fun va vb wr => ∃ (a : Nat) (dk : Array Ev), va = .int .i64 a ∧ vb = .int .i64 (a + 20 : Nat) ∧ a ≤ n ∧ dk.size = n ∧ HoE wr g dk ∧ UpdS (fun x => x = g) W1 wr ∧ Hid (Laid 20 n a dk ∧ PermIn 0 n d dk)) (fun va _ _ => n - (intOf va).toNat)
  case atStart => exact ⟨0, d, rfl, rfl, Nat.zero_le _, hdn, H1.out, UpdS.refl _ _, Laid.zero _ _ _, permIn_refl _ _ _⟩
  case round =>
    clear H1
    obtain ⟨a, dk, rfl, rfl, han, hds, hH, U, HI⟩ := hrel
    obtain ⟨c0, c1⟩ := HF.out.upd U hgn
    have hgr : g < wr.heap.size := Nat.lt_of_lt_of_le hgW U.size
    have HSD : Hid (SwapE Tryd.prog sf sb g dk.size) := by rw [hds]; exact HSW
    have HLD : Hid (LessE Tryd.prog gl lb w g dk.size) := by rw [hds]; exact HLS
    by_cases hle : a + 20 ≤ n
    · have hleI : ((a + 20 : Nat) : Int) ≤ (n : Int) := by omega
      have hs := c_insertionSort gl sf g lb sb eg a (a + 20) dk w wr HLD.out (updS_tr HU1.out U) HSD.out hH hgr (by omega) (by omega) (by omega)
      have hp := insertionSort_holds swoE dk a (a + 20) (by omega) (by omega)
      have hsz2 : (insertionSort ltE dk a (a + 20)).size = n := hp.1.1.trans hds
      have HX : Hid (Laid 20 n (a + 20) (insertionSort ltE dk a (a + 20)) ∧ PermIn 0 n d (insertionSort ltE dk a (a + 20))) := ⟨HI.out.1.step (Nat.le_refl _) (Nat.le_refl _) hle hp.1 hp.2, permIn_trans _ _ _ _ _ HI.out.2 (permIn_mono _ _ _ _ _ _ (Nat.zero_le _) hle (by omega) hp.1)⟩
      have HU := Lib.hid U
      clear hp hH U HSD HLD
      generalize insertionSort ltE dk a (a + 20) = dz at hs HX hsz2
      go_wp2_with fail
      refine hs.mono ?_; rintro e w2 ⟨rfl, hH2, U2⟩
      have HZ := Lib.hid (And.intro hH2 (updS_tr HU.out U2))
      clear hH2 U2 hs
      go_wp2
      exact ⟨⟨a + 20, dz, by go_num, by go_num, hle, hsz2, HZ.out.1, HZ.out.2, HX⟩, by simp [intOf]; omega⟩
    · have hleI : ¬ ((a + 20 : Nat) : Int) ≤ (n : Int) := by omega
      have hs := c_insertionSort gl sf g lb sb eg a n dk w wr HLD.out (updS_tr HU1.out U) HSD.out hH hgr han (by omega) (by omega)
      have hp := insertionSort_holds swoE dk a n han (by omega)
      have hsz2 : (insertionSort ltE dk a n).size = n := hp.1.1.trans hds
      have HX : Hid (Runs 20 n (insertionSort ltE dk a n) 0 ∧ PermIn 0 n d (insertionSort ltE dk a n)) := ⟨HI.out.1.done han (by omega) hp.1 hp.2, permIn_trans _ _ _ _ _ HI.out.2 (permIn_mono _ _ _ _ _ _ (Nat.zero_le _) (Nat.le_refl _) (by omega) hp.1)⟩
      have HU := Lib.hid U
      clear hp hH U HSD HLD HI
      generalize insertionSort ltE dk a n = dz at hs HX hsz2
      go_wp2_with fail
      refine hs.mono ?_; rintro e w2 ⟨rfl, hH2, U2⟩
      have HZ := Lib.hid (And.intro hH2 (updS_tr HU.out U2))
      clear hH2 U2 hs hle hleI hds HU c0 c1 hgr
      go_wp2_with fail
      go_loopw [4] (fun vbs wr => ∃ (bs : Nat) (dk : Array Ev), vbs = .int .i64 bs ∧ 0 < bs ∧ bs ≤ 2 * n + 20 ∧ dk.size = n ∧ HoE wr g dk ∧ UpdS (fun x => x = g) W1 wr ∧ Hid (Runs bs n dk 0 ∧ PermIn 0 n d dk)) (fun vbs _ => 2 * n + 21 - (intOf vbs).toNat)
      case atStart => exact ⟨20, dz, rfl, by omega, by omega, hsz2, HZ.out.1, HZ.out.2, HX⟩
      case round =>
        clear HZ HX hsz2
        obtain ⟨bs, dk, rfl, hb0, hbs, hds, hH, U, HI⟩ := hrel
        by_cases hlt : bs < n
        · have hltI : (bs : Int) < (n : Int) := by omega
          have HS : Hid (HoE wr g dk ∧ UpdS (fun x => x = g) W1 wr) := ⟨hH, U⟩
          obtain ⟨wo, rfl⟩ : ∃ wo : World, wo = wr := ⟨_, rfl⟩
          clear hH U
          go_wp2_with fail
          go_loopw [5, 6] (fun va vb wr2 => ∃ (a : Nat) (dj : Array Ev), va = .int .i64 a ∧ vb = .int .i64 (a + 2 * bs : Nat) ∧ a ≤ n ∧ dj.size = n ∧ HoE wr2 g dj ∧ UpdS (fun x => x = g) W1 wr2 ∧ Hid (Laid (2 * bs) n a dj ∧ Runs bs n dj a ∧ PermIn 0 n d dj)) (fun va _ _ => n - (intOf va).toNat)
          case atStart => exact ⟨0, dk, rfl, by go_num, Nat.zero_le _, hds, HS.out.1, HS.out.2, Laid.zero _ _ _, HI.out⟩
          case round =>
            clear HS HI hds
            obtain ⟨a, dj, rfl, rfl, han, hds, hH, U, HI⟩ := hrel
            obtain ⟨c0, c1⟩ := HF.out.upd U hgn
            have hgr : g < wr.heap.size := Nat.lt_of_lt_of_le hgW U.size
            by_cases hle : a + 2 * bs ≤ n
            · have hleI : ((a + 2 * bs : Nat) : Int) ≤ (n : Int) := by omega
              obtain ⟨s1, s2, s3⟩ := HI.out.2.1.two hb0 hle
              have hs := c_symMerge gl sf g n lb sb eg w HLS.out HSW.out hsz n a (a + bs) (a + 2 * bs) dj wr (by omega) (by omega) (by omega) (by omega) hds (updS_tr HU1.out U) hH hgr s1 s2
              have HR := Lib.hid s3
              have HU := Lib.hid U
              rw [show ((a + bs : Nat) : Int) = (a : Int) + (bs : Int) by omega] at hs
              clear s1 s2 s3 hH U
              go_wp2_with fail
              refine hs.mono ?_; rintro e w3 ⟨rfl, d3, hH3, U3, p3, s3⟩
              have hsz3 : d3.size = n := p3.1.trans hds
              have HX : Hid (Laid (2 * bs) n (a + 2 * bs) d3 ∧ Runs bs n d3 (a + 2 * bs) ∧ PermIn 0 n d d3) := ⟨HI.out.1.step (Nat.le_refl _) (Nat.le_refl _) hle p3 s3, HR.out.keep (fun x hx => p3.2.1 x (Or.inr hx)), permIn_trans _ _ _ _ _ HI.out.2.2 (permIn_mono _ _ _ _ _ _ (Nat.zero_le _) hle (by omega) p3)⟩
              have HZ := Lib.hid (And.intro hH3 (updS_tr HU.out U3))
              clear hH3 U3 hs p3 s3 HR
              go_wp2
              exact ⟨⟨a + 2 * bs, d3, by go_num, by go_num, hle, hsz3, HZ.out.1, HZ.out.2, HX⟩, by simp [intOf]; omega⟩
            · have hleI : ¬ ((a + 2 * bs : Nat) : Int) ≤ (n : Int) := by omega
              by_cases hm : a + bs < n
              · have hmI : (a : Int) + (bs : Int) < (n : Int) := by omega
                obtain ⟨s1, s2⟩ := HI.out.2.1.tail2 hb0 (by omega) hm
                have hs := c_symMerge gl sf g n lb sb eg w HLS.out HSW.out hsz n a (a + bs) n dj wr (by omega) (by omega) (by omega) (by omega) hds (updS_tr HU1.out U) hH hgr s1 s2
                have HU := Lib.hid U
                rw [show ((a + bs : Nat) : Int) = (a : Int) + (bs : Int) by omega] at hs
                clear s1 s2 hH U
                go_wp2_with fail
                refine hs.mono ?_; rintro e w3 ⟨rfl, d3, hH3, U3, p3, s3⟩
                have hsz3 : d3.size = n := p3.1.trans hds
                have HX : Hid (Runs (2 * bs) n d3 0 ∧ PermIn 0 n d d3) := ⟨HI.out.1.done han (by omega) p3 s3, permIn_trans _ _ _ _ _ HI.out.2.2 (permIn_mono _ _ _ _ _ _ (Nat.zero_le _) (Nat.le_refl _) (by omega) p3)⟩
                have HZ := Lib.hid (And.intro hH3 (updS_tr HU.out U3))
                clear hH3 U3 hs p3 s3
                go_wp2
                exact ⟨⟨2 * bs, d3, by go_num, by omega, by omega, hsz3, HZ.out.1, HZ.out.2, HX⟩, by simp [intOf]; omega⟩
              · have hmI : ¬ (a : Int) + (bs : Int) < (n : Int) := by omega
                have HX : Hid (Runs (2 * bs) n dj 0 ∧ PermIn 0 n d dj) := ⟨HI.out.1.done han (by omega) (permIn_refl _ _ _) (HI.out.2.1.tail1 (by omega)), HI.out.2.2⟩
                have HZ := Lib.hid (And.intro hH U)
                clear hH U
                go_wp2
                exact ⟨⟨2 * bs, dj, by go_num, by omega, by omega, hds, HZ.out.1, HZ.out.2, HX⟩, by simp [intOf]; omega⟩
        · have hltI : ¬ (bs : Int) < (n : Int) := by omega
          have HX : Hid (SortedIn ltE 0 n dk) := HI.out.1.tail1 (by omega)
          go_wp2
          go_end0
          exact ⟨rfl, dk, hH, updS_tr HU1.out U, HI.out.2, HX.out⟩
end Go.Proofs.YtgcmnpimkfmccaaDoor
end
section
namespace Go.Proofs.YtgcmnpimkfmccaaDoor
open Go.ChangeShapes Go.WideShapes Go.ChangeAt Go.RowKit Go.Sort Go.Lib Go.Shelf
set_option linter.unusedSimpArgs false
set_option linter.unusedVariables false
noncomputable def siT : TypeInfo := (Tryd.prog.info? 32).get (by kernel_rfl)
noncomputable def siE : TypeInfo := (Tryd.prog.info? 36).get (by kernel_rfl)
theorem siK (n : Nat) (h2 : 2 ≤ n) : Lib.swapperK n siE 25 = 9 := by
  have a : siE.hasPointers = false := by kernel_rfl
  have b : siE.bytes = 32 := by kernel_rfl
  have c : (n == 0) = false := by simp; omega
  have d : (n == 1) = false := by simp; omega
  simp [Lib.swapperK, a, b, c, d]
theorem sw_find (n : Nat) : ∃ f, Tryd.prog.funcs.findIdx? (·.name == "internal/reflectlite" ++ ".Swapper$" ++ toString (Lib.swapperK n siE 25)) = some f ∧ (2 ≤ n → f = 74) := by
  rcases Nat.lt_or_ge n 2 with h | h
  · rcases (by omega : n = 0 ∨ n = 1) with rfl | rfl
    · exact ⟨66, by kernel_rfl, fun h => by omega⟩
    · exact ⟨67, by kernel_rfl, fun h => by omega⟩
  · exact ⟨74, by rw [siK n h]; kernel_rfl, fun _ => rfl⟩
theorem sw_swaps (g n c : Nat) : SwapSwapsK Tryd.prog 74 #[.slice (some ⟨g, 0, none⟩) n c, typeHandle Tryd.prog 36] rowE 4 g 0 n :=
  swapSwapsK_of_literal false 74 (fun args W => run_callFunc_extern Tryd.func74 (by kernel_rfl) (by kernel_rfl) (by kernel_rfl) (e := Extern.ReflectliteSwapper.swap false) (by kernel_rfl) args W)
    36 siE (by kernel_rfl) rowE 4 rowE_len (by kernel_rfl) (fun _ => by kernel_rfl) rowE_one g 0 n c
set_option maxHeartbeats 4000000 in
set_option maxRecDepth 100000 in
theorem c_SliceStable (gl g n c : Nat) (lb : Array Value) (p : Option Addr) (eg : ∀ args w, (callFunc gl args).run Tryd.prog w = .ok (.enter gl args) w) (d : Array Ev) (w : World) (hp : n = 0 ∨ p = some ⟨g, 0, none⟩) (hls : LessE Tryd.prog gl lb w g n) (hsz : n ≤ 1000000) (hdn : d.size = n) (hH : HoE w g d) (hg : g < w.heap.size) :
    Calls Tryd.prog 20 #[.iface 32 (.slice p n c), .func (.func gl) #[] lb] w fun e w' => e = .returned (.tuple #[]) ∧ ∃ d' : Array Ev, HoE w' g d' ∧ UpdS (fun x => x = g) w w' ∧ PermIn 0 n d d' ∧ SortedIn ltE 0 n d' := by
  obtain ⟨f, hf, hf2⟩ := sw_find n
  have hi : Tryd.prog.info? 32 = some siT := by kernel_rfl
  have hd : siT.desc = .slice 36 := by kernel_rfl
  have hpk : Tryd.prog.packed 32 = false := by kernel_rfl
  have hie : Tryd.prog.info? 36 = some siE := by kernel_rfl
  have hke : ∀ w, (Extern.Rtype.kind 36).run Tryd.prog w = .ok 25 w := fun _ => by kernel_rfl
  have hv := run_valueOf_slice (P := Tryd.prog) 32 36 siT hi hd p n c w
  have hs := fun w => run_swapper_slice (P := Tryd.prog) 32 36 siT siE hi hd hie 25 hke p n c f hf w
  have hl := fun a w ha => run_valueLen_slice (P := Tryd.prog) 32 36 siT hi hd hpk a p n c w ha
  obtain ⟨W2, hW2⟩ : ∃ W2, W2 = (w.alloc (.cells #[.slice p n c] 32)).alloc (.cells #[.pointer (some ⟨Tryd.prog.globals.size, 32, none⟩), .pointer (some ⟨w.heap.size, 0, none⟩), .int .u64 151] 63) := ⟨_, rfl⟩
  have B2 : Below w.heap.size w W2 := by rw [hW2]; exact ((Below.refl _ _).al _).al _
  have HU2 := Lib.hid (UpdS.of_below (D := fun x => x = g) B2)
  obtain ⟨B, hB⟩ : ∃ B, (if swapperK n siE 25 ≤ 2 then (#[] : Array Value) else #[.slice p n c, typeHandle Tryd.prog 36]) = B := ⟨_, rfl⟩
  have hsw : SwapE Tryd.prog f B g n := fun h2 => by
    have hp2 : p = some ⟨g, 0, none⟩ := by
      rcases hp with h | h
      · omega
      · exact h
    rw [← hB, if_neg (by rw [siK n h2]; omega), hf2 h2, hp2]
    exact sw_swaps g n c
  have hst := c_stable gl f g n lb B eg d W2 (fun W dk U => hls W dk (updS_tr HU2.out U)) hsw hsz hdn (hH.below B2) (by have := B2.size; omega)
  rw [hB] at hs
  clear hsw hB hf hf2 hH hls B2 hi hd hpk hie hke hp
  simp only [typeHandle] at hv hl
  (try simp only [show Tryd.prog.globals.size = 3 from by kernel_rfl] at hv hl hW2)
  go_enter Tryd.func20, Tryd.ntmps20
  go_wp2
  rw [run_callFunc_extern Tryd.func45 (by kernel_rfl) (by kernel_rfl) (by kernel_rfl) (e := fun args => Extern.ReflectliteValue.unpack (args.getD 0 (.tuple #[]))) (by kernel_rfl),
    show Sem.run Tryd.prog ((fun args : Array Value => Extern.ReflectliteValue.unpack (args.getD 0 (.tuple #[]))) #[.iface 32 (.slice p n c)]) w = _ from hv]
  simp only [Result.andThen]
  rw [Oper.upon_value]
  go_wp2
  rw [run_callFunc_extern Tryd.func46 (by kernel_rfl) (by kernel_rfl) (by kernel_rfl) (e := Extern.ReflectliteSwapper.swapper "internal/reflectlite" (Extern.ReflectliteValue.valueError "Swapper")) (by kernel_rfl), hs]
  simp only [Result.andThen]
  rw [Oper.upon_value]
  go_wp2
  rw [run_callFunc_extern Tryd.func48 (by kernel_rfl) (by kernel_rfl) (by kernel_rfl) (e := Extern.ReflectliteValue.method (Extern.ReflectliteValue.valueError "reflectlite.Value.Len" 0) Extern.ReflectliteValue.len) (by kernel_rfl),
    hl _ _ (by simp)]
  simp only [Result.andThen]
  rw [Oper.upon_value]
  rw [← hW2]
  clear hv hs hl hW2
  go_wp2_with fail
  refine hst.mono ?_; rintro e w' ⟨rfl, d', hH', U', hp', hs'⟩
  have HX : Hid (HoE w' g d' ∧ UpdS (fun x => x = g) w w' ∧ PermIn 0 n d d' ∧ SortedIn ltE 0 n d') := ⟨hH', updS_tr HU2.out U', hp', hs'⟩
  clear hst hH' U' hp' hs'
  go_wp2
  go_end0
  exact ⟨rfl, d', HX.out⟩
end Go.Proofs.YtgcmnpimkfmccaaDoor
end
