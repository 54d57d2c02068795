/- Walks: symMerge over events, with a less that may lay blocks. -/
import Derived.Test.YtgcmnpimkfmccaaSrtW
namespace Go.Proofs.Ytgcmnpimkfmccaa
open Go.ChangeShapes Go.WideShapes Go.ChangeAt Go.RowKit Go.Sort
set_option linter.unusedSimpArgs false
set_option linter.unusedVariables false
theorem permIn_swap {a b : Nat} {d d' : Array Ev} {i j : Nat} (h : PermIn a b d d') (h1 : a ≤ i) (h2 : i < b) (h3 : a ≤ j) (h4 : j < b) (hbs : b ≤ d.size) : PermIn a b d (swp d' i j) :=
  permIn_trans _ _ _ _ _ h (swp_permIn d' a b i j h1 h2 h3 h4 (by rw [h.1]; exact hbs))
theorem sorted_keep {a c x y : Nat} {d d' : Array Ev} (h : PermIn a c d d') (hx : c ≤ x) (hs : SortedIn ltE x y d) : SortedIn ltE x y d' := fun i j hi hij hj => by
  rw [h.2.1 i (Or.inr (by omega)), h.2.1 j (Or.inr (by omega))]; exact hs i j hi hij hj
/-- what stands behind the rotation -/
def Halved (a s mid en b : Nat) (d1 : Array Ev) : Prop := SortedIn ltE a s d1 ∧ SortedIn ltE s mid d1 ∧ SortedIn ltE mid en d1 ∧ SortedIn ltE en b d1 ∧ ∀ x y, a ≤ x → x < mid → mid ≤ y → y < b → ltE d1[y]! d1[x]! = false
theorem halved_of {a s m en mid b : Nat} {d d1 : Array Ev} (h1 : a ≤ s) (h2 : s ≤ m) (h3 : m ≤ en) (h4 : en ≤ b) (hn : mid + m = en + s) (hl : SortedIn ltE a m d) (hr : SortedIn ltE m b d)
    (hlo : a < s → en < b → ltE d[en]! d[s - 1]! = false) (hhi : s < m → m < en → ltE d[en - 1]! d[s]! = true) (hR : Rot s m en d d1) : Halved a s mid en b d1 := by
  have h := halves swoE h1 h2 h3 h4 hl hr hlo hhi hR
  rwa [show s + (en - m) = mid by omega] at h
theorem halved_low {a s mid en b : Nat} {d1 : Array Ev} (h : Halved a s mid en b d1) (hs : s ≤ a ∨ mid ≤ s) (h1 : a ≤ s) (h2 : s ≤ mid) : SortedIn ltE a mid d1 := by
  rcases hs with e | e
  · exact sorted_part h.2.1 (by omega) (Nat.le_refl _)
  · exact sorted_part h.1 (Nat.le_refl _) (by omega)
theorem halved_high {a s mid en b : Nat} {d1 d2 : Array Ev} (h : Halved a s mid en b d1) (hs : en ≤ mid ∨ b ≤ en) (h1 : mid ≤ en) (h2 : en ≤ b) (p : PermIn a mid d1 d2) : SortedIn ltE mid b d2 := by
  refine sorted_keep p (Nat.le_refl _) ?_
  rcases hs with e | e
  · exact sorted_part h.2.2.2.1 (by omega) (Nat.le_refl _)
  · exact sorted_part h.2.2.1 (Nat.le_refl _) (by omega)
set_option maxHeartbeats 16000000 in
set_option maxRecDepth 100000 in
theorem c_symA (gl sf g n : Nat) (lb sb : Array Value) (eg : ∀ args w, (callFunc gl args).run Try.prog w = .ok (.enter gl args) w) (w0 : World) (hls : LessE Try.prog gl lb w0 g n) (hsw : SwapE Try.prog sf sb g n) (hsz : n ≤ 1000000)
    (a m b : Nat) (d : Array Ev) (w : World) (ham1 : m ≤ a + 1) (ham2 : a + 1 ≤ m) (hmb : m < b) (hb : b ≤ d.size) (hdn : d.size = n) (U0 : UpdS (fun x => x = g) w0 w) (hH : HoE w g d) (hg : g < w.heap.size) (hs2 : SortedIn ltE m b d) :
    Calls Try.prog 132 #[.agg #[.func (.func gl) #[] lb, .func (.func sf) #[] sb], .int .i64 a, .int .i64 m, .int .i64 b] w fun e w' => e = .returned (.tuple #[]) ∧ ∃ d' : Array Ev, HoE w' g d' ∧ UpdS (fun x => x = g) w w' ∧ PermIn a b d d' ∧ SortedIn ltE a b d' := by
  obtain ⟨W1, hW1⟩ : ∃ W1, W1 = w.alloc (.cells #[.func (.func gl) #[] lb, .func (.func sf) #[] sb] 133) := ⟨_, rfl⟩
  have HF : Hid (FnBox W1 w.heap.size gl sf lb sb) := Lib.hid (by rw [hW1]; exact fnBox_new w _ gl sf lb sb)
  have HU1 : Hid (UpdS (fun x => x = g) w W1) := Lib.hid (by rw [hW1]; exact updS_new w _)
  have H1 : Hid (HoE W1 g d) := Lib.hid (by rw [hW1]; exact hH.below ((Below.refl _ _).al _))
  have hgn : w.heap.size ≠ g := by omega
  have HSW := Lib.hid hsw
  have HLS := Lib.hid hls
  have HU0 := Lib.hid (updS_tr U0 HU1.out)
  have HS2 := Lib.hid hs2
  clear hH hsw hls U0 hs2
  have t1 : ((m : Int) - (a : Int) == 1) = true := by simp; omega
  go_enter Try.func132, Try.ntmps132
  go_wp2_with fail
  rw [← hW1]
  clear hW1
  obtain ⟨bx, hbx⟩ : ∃ bx, w.heap.size = bx := ⟨_, rfl⟩
  rw [hbx] at HF hgn ⊢
  clear hbx
  go_loopw [8, 9] (fun vi vj wr => ∃ (i j : Nat), vi = .int .i64 i ∧ vj = .int .i64 j ∧ a + 1 ≤ i ∧ i ≤ j ∧ j ≤ b ∧ HoE wr g d ∧ UpdS (fun x => x = g) W1 wr ∧ Hid ((a + 1 < i → ltE d[i - 1]! d[a]! = true) ∧ (j < b → ltE d[j]! d[a]! = false))) (fun vi vj _ => (intOf vj).toNat - (intOf vi).toNat)
  case atStart => exact ⟨m, b, rfl, rfl, by omega, by omega, Nat.le_refl _, H1.out, UpdS.refl _ _, ⟨fun h => by omega, fun h => absurd h (Nat.lt_irrefl _)⟩⟩
  case round =>
    clear H1
    obtain ⟨i, j, rfl, rfl, hai, hij, hjb, hH, U, HI⟩ := hrel
    obtain ⟨c0, c1⟩ := HF.out.upd U hgn
    by_cases hlt : i < j
    · have hltI : (i : Int) < (j : Int) := by omega
      obtain ⟨h, hh1, hh2⟩ : ∃ h, 2 * h ≤ i + j ∧ i + j < 2 * h + 2 := ⟨(i + j) / 2, by omega, by omega⟩
      have hl := HLS.out wr d (updS_tr HU0.out U) hH hdn h a (by omega) (by omega)
      rw [show ((h : Nat) : Int) = ((i : Int) + (j : Int)) / 2 by omega] at hl
      go_wp2_with (go_at_fn gl; refine hl.mono ?_; rintro e w3 ⟨rfl, hb3⟩; refine stop_of ?_)
      unfold Stopped
      have hH3 := hH.below hb3
      have U3 := updS_tr U (UpdS.of_below (D := fun x => x = g) hb3)
      cases hlv : ltE d[h]! d[a]!
      · have HX : Hid ((a + 1 < i → ltE d[i - 1]! d[a]! = true) ∧ (h < b → ltE d[h]! d[a]! = false)) := ⟨HI.out.1, fun _ => hlv⟩
        have HP := Lib.hid (And.intro hH3 U3)
        clear hH3 U3 hH U hl hlv HI
        go_wp2
        exact ⟨⟨i, h, rfl, by congr 1; omega, hai, by omega, by omega, HP.out.1, HP.out.2, HX⟩, by simp [intOf]; omega⟩
      · have HX : Hid ((a + 1 < h + 1 → ltE d[h + 1 - 1]! d[a]! = true) ∧ (j < b → ltE d[j]! d[a]! = false)) := ⟨fun _ => hlv, HI.out.2⟩
        have HP := Lib.hid (And.intro hH3 U3)
        clear hH3 U3 hH U hl hlv HI
        go_wp2
        exact ⟨⟨h + 1, j, by go_num, rfl, by omega, by omega, hjb, HP.out.1, HP.out.2, HX⟩, by simp [intOf]; omega⟩
    · have hltI : ¬ (i : Int) < (j : Int) := by omega
      have hie : i = j := by omega
      subst hie
      clear hlt
      obtain ⟨wo, rfl⟩ : ∃ wo : World, wo = wr := ⟨_, rfl⟩
      have HHO := Lib.hid hH
      have HUO := Lib.hid U
      clear hH U c0 c1
      go_wp2_with fail
      go_loopw [11] (fun vk wr => ∃ (k : Nat) (dk : Array Ev), vk = .int .i64 k ∧ a ≤ k ∧ k + 1 ≤ i ∧ dk.size = d.size ∧ HoE wr g dk ∧ UpdS (fun x => x = g) W1 wr ∧ Hid (Rot a (a + 1) (k + 1) d dk) ∧ Hid (PermIn a b d dk)) (fun vk _ => i - (intOf vk).toNat)
      case atStart => exact ⟨a, d, rfl, Nat.le_refl _, by omega, rfl, HHO.out, HUO.out, Rot.none (by omega) (by omega) (Or.inr rfl), permIn_refl _ _ _⟩
      case round =>
        clear HHO HUO
        obtain ⟨k, dk, rfl, hak, hki, hds, hH, U, HR, HP⟩ := hrel
        obtain ⟨c0, c1⟩ := HF.out.upd U hgn
        by_cases hk : k + 1 < i
        · have hkI : (k : Int) < (i : Int) - 1 := by omega
          have hs := HSW.out (by omega) wr dk hH (by omega) k (k + 1) (by omega) (by omega)
          rw [show (((k + 1 : Nat)) : Int) = (k : Int) + 1 by omega] at hs
          have HH2 := Lib.hid (hH.swap (i := k) (j := k + 1) (by omega) (by omega))
          have HU2 := Lib.hid (updS_tr U (updS_tr (setCells_upd (D := fun x => x = g) rfl (rowE dk[k + 1]!) (0 + k * 4) wr) (setCells_upd (D := fun x => x = g) rfl (rowE dk[k]!) (0 + (k + 1) * 4) _)))
          have HR2 := Lib.hid (HR.out.carry (by omega) (by omega))
          have HP2 := Lib.hid (permIn_swap HP.out (i := k) (j := k + 1) (by omega) (by omega) (by omega) (by omega) (by omega))
          have hsz2 := size_swp dk k (k + 1)
          obtain ⟨wz, hwz⟩ : ∃ wz, (wr.setCells g (0 + k * 4) (rowE dk[k + 1]!)).setCells g (0 + (k + 1) * 4) (rowE dk[k]!) = wz := ⟨_, rfl⟩
          rw [hwz] at hs HH2 HU2
          obtain ⟨dz, hdz⟩ : ∃ dz, swp dk k (k + 1) = dz := ⟨_, rfl⟩
          rw [hdz] at HH2 HR2 HP2 hsz2
          clear hwz hdz hH U HR HP
          go_wp2
          exact ⟨⟨k + 1, dz, by go_num, by omega, by omega, hsz2.trans hds, HH2.out, HU2.out, HR2, HP2⟩, by simp [intOf]; omega⟩
        · have hkI : ¬ (k : Int) < (i : Int) - 1 := by omega
          have hke : k + 1 = i := by omega
          have HX : Hid (SortedIn ltE a b dk) := by
            have hr := HR.out
            rw [hke] at hr
            exact merged_one swoE (by omega) (by omega) (sorted_part HS2.out (by omega) (Nat.le_refl _)) HI.out.2 HI.out.1 hr
          clear HI
          go_wp2
          refine bodyPost_ret (results_none rfl _ _ _) rfl ?_
          exact ⟨rfl, dk, hH, updS_tr HU1.out U, HP.out, HX.out⟩
set_option maxHeartbeats 16000000 in
set_option maxRecDepth 100000 in
theorem c_symB (gl sf g n : Nat) (lb sb : Array Value) (eg : ∀ args w, (callFunc gl args).run Try.prog w = .ok (.enter gl args) w) (w0 : World) (hls : LessE Try.prog gl lb w0 g n) (hsw : SwapE Try.prog sf sb g n) (hsz : n ≤ 1000000)
    (a m b : Nat) (d : Array Ev) (w : World) (ham : a + 2 ≤ m) (hmb1 : m + 1 ≤ b) (hmb2 : b ≤ m + 1) (hb : b ≤ d.size) (hdn : d.size = n) (U0 : UpdS (fun x => x = g) w0 w) (hH : HoE w g d) (hg : g < w.heap.size) (hs2 : SortedIn ltE a m d) :
    Calls Try.prog 132 #[.agg #[.func (.func gl) #[] lb, .func (.func sf) #[] sb], .int .i64 a, .int .i64 m, .int .i64 b] w fun e w' => e = .returned (.tuple #[]) ∧ ∃ d' : Array Ev, HoE w' g d' ∧ UpdS (fun x => x = g) w w' ∧ PermIn a b d d' ∧ SortedIn ltE a b d' := by
  obtain ⟨W1, hW1⟩ : ∃ W1, W1 = w.alloc (.cells #[.func (.func gl) #[] lb, .func (.func sf) #[] sb] 133) := ⟨_, rfl⟩
  have HF : Hid (FnBox W1 w.heap.size gl sf lb sb) := Lib.hid (by rw [hW1]; exact fnBox_new w _ gl sf lb sb)
  have HU1 : Hid (UpdS (fun x => x = g) w W1) := Lib.hid (by rw [hW1]; exact updS_new w _)
  have H1 : Hid (HoE W1 g d) := Lib.hid (by rw [hW1]; exact hH.below ((Below.refl _ _).al _))
  have hgn : w.heap.size ≠ g := by omega
  have HSW := Lib.hid hsw
  have HLS := Lib.hid hls
  have HU0 := Lib.hid (updS_tr U0 HU1.out)
  have HS2 := Lib.hid hs2
  clear hH hsw hls U0 hs2
  have t1 : ((m : Int) - (a : Int) == 1) = false := by simp; omega
  have t2 : ((b : Int) - (m : Int) == 1) = true := by simp; omega
  go_enter Try.func132, Try.ntmps132
  go_wp2_with fail
  rw [← hW1]
  clear hW1
  obtain ⟨bx, hbx⟩ : ∃ bx, w.heap.size = bx := ⟨_, rfl⟩
  rw [hbx] at HF hgn ⊢
  clear hbx
  go_loopw [12, 13] (fun vi vj wr => ∃ (i j : Nat), vi = .int .i64 i ∧ vj = .int .i64 j ∧ a ≤ i ∧ i ≤ j ∧ j ≤ m ∧ HoE wr g d ∧ UpdS (fun x => x = g) W1 wr ∧ Hid ((a < i → ltE d[m]! d[i - 1]! = false) ∧ (j < m → ltE d[m]! d[j]! = true))) (fun vi vj _ => (intOf vj).toNat - (intOf vi).toNat)
  case atStart => exact ⟨a, m, rfl, rfl, by omega, by omega, Nat.le_refl _, H1.out, UpdS.refl _ _, ⟨fun h => absurd h (Nat.lt_irrefl _), fun h => absurd h (Nat.lt_irrefl _)⟩⟩
  case round =>
    clear H1
    obtain ⟨i, j, rfl, rfl, hai, hij, hjb, hH, U, HI⟩ := hrel
    obtain ⟨c0, c1⟩ := HF.out.upd U hgn
    by_cases hlt : i < j
    · have hltI : (i : Int) < (j : Int) := by omega
      obtain ⟨h, hh1, hh2⟩ : ∃ h, 2 * h ≤ i + j ∧ i + j < 2 * h + 2 := ⟨(i + j) / 2, by omega, by omega⟩
      have hl := HLS.out wr d (updS_tr HU0.out U) hH hdn m h (by omega) (by omega)
      rw [show ((h : Nat) : Int) = ((i : Int) + (j : Int)) / 2 by omega] at hl
      go_wp2_with (go_at_fn gl; refine hl.mono ?_; rintro e w3 ⟨rfl, hb3⟩; refine stop_of ?_)
      unfold Stopped
      have hH3 := hH.below hb3
      have U3 := updS_tr U (UpdS.of_below (D := fun x => x = g) hb3)
      cases hlv : ltE d[m]! d[h]!
      · have HX : Hid ((a < h + 1 → ltE d[m]! d[h + 1 - 1]! = false) ∧ (j < m → ltE d[m]! d[j]! = true)) := ⟨fun _ => hlv, HI.out.2⟩
        have HP := Lib.hid (And.intro hH3 U3)
        clear hH3 U3 hH U hl hlv HI
        go_wp2
        exact ⟨⟨h + 1, j, by go_num, rfl, by omega, by omega, hjb, HP.out.1, HP.out.2, HX⟩, by simp [intOf]; omega⟩
      · have HX : Hid ((a < i → ltE d[m]! d[i - 1]! = false) ∧ (h < m → ltE d[m]! d[h]! = true)) := ⟨HI.out.1, fun _ => hlv⟩
        have HP := Lib.hid (And.intro hH3 U3)
        clear hH3 U3 hH U hl hlv HI
        go_wp2
        exact ⟨⟨i, h, rfl, by congr 1; omega, hai, by omega, by omega, HP.out.1, HP.out.2, HX⟩, by simp [intOf]; omega⟩
    · have hltI : ¬ (i : Int) < (j : Int) := by omega
      have hie : i = j := by omega
      subst hie
      clear hlt
      obtain ⟨wo, rfl⟩ : ∃ wo : World, wo = wr := ⟨_, rfl⟩
      have HHO := Lib.hid hH
      have HUO := Lib.hid U
      clear hH U c0 c1
      go_wp2_with fail
      go_loopw [15] (fun vk wr => ∃ (k : Nat) (dk : Array Ev), vk = .int .i64 k ∧ i ≤ k ∧ k ≤ m ∧ dk.size = d.size ∧ HoE wr g dk ∧ UpdS (fun x => x = g) W1 wr ∧ Hid (Rot k m (m + 1) d dk) ∧ Hid (PermIn a b d dk)) (fun vk _ => (intOf vk).toNat)
      case atStart => exact ⟨m, d, rfl, hjb, Nat.le_refl _, rfl, HHO.out, HUO.out, Rot.none (Nat.le_refl _) (by omega) (Or.inl rfl), permIn_refl _ _ _⟩
      case round =>
        clear HHO HUO
        obtain ⟨k, dk, rfl, hik, hkm, hds, hH, U, HR, HP⟩ := hrel
        obtain ⟨c0, c1⟩ := HF.out.upd U hgn
        by_cases hk : i < k
        · have hkI : (i : Int) < (k : Int) := by omega
          obtain ⟨q, hq⟩ : ∃ q, k = q + 1 := ⟨k - 1, by omega⟩
          have hq1 : ((q : Nat) : Int) = (k : Int) - 1 := by omega
          have hs := HSW.out (by omega) wr dk hH (by omega) k q (by omega) (by omega)
          rw [hq1] at hs
          have HH2 := Lib.hid (hH.swap (i := k) (j := q) (by omega) (by omega))
          have HU2 := Lib.hid (updS_tr U (updS_tr (setCells_upd (D := fun x => x = g) rfl (rowE dk[q]!) (0 + k * 4) wr) (setCells_upd (D := fun x => x = g) rfl (rowE dk[k]!) (0 + q * 4) _)))
          have HR2 : Hid (Rot q m (m + 1) d (swp dk k q)) := by
            have hr := HR.out
            rw [hq] at hr ⊢
            exact hr.carryL (by omega) (by omega)
          have HP2 := Lib.hid (permIn_swap HP.out (i := k) (j := q) (by omega) (by omega) (by omega) (by omega) (by omega))
          have hsz2 := size_swp dk k q
          have hqk : q + 1 ≤ k ∧ k ≤ q + 1 := by omega
          obtain ⟨wz, hwz⟩ : ∃ wz, (wr.setCells g (0 + k * 4) (rowE dk[q]!)).setCells g (0 + q * 4) (rowE dk[k]!) = wz := ⟨_, rfl⟩
          rw [hwz] at hs HH2 HU2
          obtain ⟨dz, hdz⟩ : ∃ dz, swp dk k q = dz := ⟨_, rfl⟩
          rw [hdz] at HH2 HR2 HP2 hsz2
          clear hwz hdz hH U HR HP hq hq1
          go_wp2
          exact ⟨⟨q, dz, by congr 1; omega, by omega, by omega, hsz2.trans hds, HH2.out, HU2.out, HR2, HP2⟩, by simp [intOf]; omega⟩
        · have hkI : ¬ (i : Int) < (k : Int) := by omega
          have hke : k = i := by omega
          have HX : Hid (SortedIn ltE a b dk) := by
            have hr := HR.out
            rw [hke] at hr
            exact sorted_part (merged_oneR swoE (by omega) (by omega) HS2.out HI.out.1 HI.out.2 hr) (Nat.le_refl _) hmb2
          clear HI hke
          go_wp2
          refine bodyPost_ret (results_none rfl _ _ _) rfl ?_
          exact ⟨rfl, dk, hH, updS_tr HU1.out U, HP.out, HX.out⟩
-- SYMC
set_option maxHeartbeats 32000000 in
set_option maxRecDepth 100000 in
theorem c_symC (gl sf g n : Nat) (lb sb : Array Value) (eg : ∀ args w, (callFunc gl args).run Try.prog w = .ok (.enter gl args) w) (w0 : World) (hls : LessE Try.prog gl lb w0 g n) (hsw : SwapE Try.prog sf sb g n) (hsz : n ≤ 1000000) (N : Nat)
    (ih : ∀ (a m b : Nat) (d : Array Ev) (w : World), b - a ≤ N → a < m → m < b → b ≤ d.size → d.size = n → UpdS (fun x => x = g) w0 w → HoE w g d → g < w.heap.size → SortedIn ltE a m d → SortedIn ltE m b d →
    Calls Try.prog 132 #[.agg #[.func (.func gl) #[] lb, .func (.func sf) #[] sb], .int .i64 a, .int .i64 m, .int .i64 b] w fun e w' => e = .returned (.tuple #[]) ∧ ∃ d' : Array Ev, HoE w' g d' ∧ UpdS (fun x => x = g) w w' ∧ PermIn a b d d' ∧ SortedIn ltE a b d')
    (a m b mid : Nat) (d : Array Ev) (w : World) (hN : b - a ≤ N + 1) (ham : a + 2 ≤ m) (hmb : m + 2 ≤ b) (hb : b ≤ d.size) (hdn : d.size = n) (U0 : UpdS (fun x => x = g) w0 w) (hH : HoE w g d) (hg : g < w.heap.size) (hs1 : SortedIn ltE a m d) (hs2 : SortedIn ltE m b d) (hm1 : 2 * mid ≤ a + b) (hm2 : a + b < 2 * mid + 2) (hmm : mid < m) :
    Calls Try.prog 132 #[.agg #[.func (.func gl) #[] lb, .func (.func sf) #[] sb], .int .i64 a, .int .i64 m, .int .i64 b] w fun e w' => e = .returned (.tuple #[]) ∧ ∃ d' : Array Ev, HoE w' g d' ∧ UpdS (fun x => x = g) w w' ∧ PermIn a b d d' ∧ SortedIn ltE a b d' := by
  have HIH := Lib.hid ih
  clear ih
  obtain ⟨W1, hW1⟩ : ∃ W1, W1 = w.alloc (.cells #[.func (.func gl) #[] lb, .func (.func sf) #[] sb] 133) := ⟨_, rfl⟩
  have HF : Hid (FnBox W1 w.heap.size gl sf lb sb) := Lib.hid (by rw [hW1]; exact fnBox_new w _ gl sf lb sb)
  have HU1 : Hid (UpdS (fun x => x = g) w W1) := Lib.hid (by rw [hW1]; exact updS_new w _)
  have H1 : Hid (HoE W1 g d) := Lib.hid (by rw [hW1]; exact hH.below ((Below.refl _ _).al _))
  have hgn : w.heap.size ≠ g := by omega
  have hgW : g < W1.heap.size := by rw [hW1]; simp; omega
  have HSW := Lib.hid hsw
  have HLS := Lib.hid hls
  have HU0 := Lib.hid (updS_tr U0 HU1.out)
  have HS := Lib.hid (And.intro hs1 hs2)
  clear hH hsw hls U0 hs1 hs2
  have t1 : ((m : Int) - (a : Int) == 1) = false := by simp; omega
  have t2 : ((b : Int) - (m : Int) == 1) = false := by simp; omega
  have t3 : ((a : Int) + (b : Int)) / 2 < (m : Int) := by omega
  go_enter Try.func132, Try.ntmps132
  go_wp2_with fail
  rw [← hW1]
  clear hW1
  obtain ⟨bx, hbx⟩ : ∃ bx, w.heap.size = bx := ⟨_, rfl⟩
  rw [hbx] at HF hgn ⊢
  clear hbx
  have hmid : ((a : Int) + (b : Int)) / 2 = (mid : Int) := by omega
  rw [hmid] at t3
  simp only [hmid]
  clear hmid
  go_loopw [18, 19] (fun vi vj wr => ∃ (i j : Nat), vi = .int .i64 i ∧ vj = .int .i64 j ∧ mid + m - b ≤ i ∧ i ≤ j ∧ j ≤ mid ∧ HoE wr g d ∧ UpdS (fun x => x = g) W1 wr ∧ Hid ((mid + m - b < i → ltE d[mid + m - i]! d[i - 1]! = false) ∧ (j < mid → ltE d[mid + m - 1 - j]! d[j]! = true))) (fun vi vj _ => (intOf vj).toNat - (intOf vi).toNat)
  case atStart => exact ⟨mid + m - b, mid, by congr 1; omega, rfl, by omega, by omega, by omega, H1.out, UpdS.refl _ _, ⟨fun h => absurd h (by omega), fun h => absurd h (by omega)⟩⟩
  case round =>
    clear H1
    obtain ⟨i, j, rfl, rfl, hai, hij, hjb, hH, U, HI⟩ := hrel
    obtain ⟨c0, c1⟩ := HF.out.upd U hgn
    by_cases hlt : i < j
    · have hltI : (i : Int) < (j : Int) := by omega
      obtain ⟨h, hh1, hh2⟩ : ∃ h, 2 * h ≤ i + j ∧ i + j < 2 * h + 2 := ⟨(i + j) / 2, by omega, by omega⟩
      have hl := HLS.out wr d (updS_tr HU0.out U) hH hdn (mid + m - 1 - h) h (by omega) (by omega)
      rw [show ((mid + m - 1 - h : Nat) : Int) = (mid : Int) + (m : Int) - 1 - ((i : Int) + (j : Int)) / 2 by omega, show ((h : Nat) : Int) = ((i : Int) + (j : Int)) / 2 by omega] at hl
      go_wp2_with (go_at_fn gl; refine hl.mono ?_; rintro e w3 ⟨rfl, hb3⟩; refine stop_of ?_)
      unfold Stopped
      have hH3 := hH.below hb3
      have U3 := updS_tr U (UpdS.of_below (D := fun x => x = g) hb3)
      cases hlv : ltE d[mid + m - 1 - h]! d[h]!
      · have HX : Hid ((mid + m - b < h + 1 → ltE d[mid + m - (h + 1)]! d[h + 1 - 1]! = false) ∧ (j < mid → ltE d[mid + m - 1 - j]! d[j]! = true)) := ⟨fun _ => by rw [show mid + m - (h + 1) = mid + m - 1 - h by omega]; exact hlv, HI.out.2⟩
        have HP := Lib.hid (And.intro hH3 U3)
        clear hH3 U3 hH U hl hlv HI
        go_wp2
        exact ⟨⟨h + 1, j, by go_num, rfl, by omega, by omega, hjb, HP.out.1, HP.out.2, HX⟩, by simp [intOf]; omega⟩
      · have HX : Hid ((mid + m - b < i → ltE d[mid + m - i]! d[i - 1]! = false) ∧ (h < mid → ltE d[mid + m - 1 - h]! d[h]! = true)) := ⟨HI.out.1, fun _ => hlv⟩
        have HP := Lib.hid (And.intro hH3 U3)
        clear hH3 U3 hH U hl hlv HI
        go_wp2
        exact ⟨⟨i, h, rfl, by congr 1; omega, hai, by omega, by omega, HP.out.1, HP.out.2, HX⟩, by simp [intOf]; omega⟩
    · have hltI : ¬ (i : Int) < (j : Int) := by omega
      obtain ⟨s, hse⟩ : ∃ s, s = i := ⟨_, rfl⟩
      have hie : s = j := by omega
      rw [← hie, ← hse] at HI
      subst hie
      subst hse
      clear hlt
      obtain ⟨en, hen1, hen2⟩ : ∃ en, en + s ≤ mid + m ∧ mid + m ≤ en + s := ⟨mid + m - s, by omega, by omega⟩
      have HLO : Hid (a < s → en < b → ltE d[en]! d[s - 1]! = false) := fun h1 h2 => by
        have h := HI.out.1 (by omega)
        rwa [show mid + m - s = en by omega] at h
      have HHI : Hid (s < m → m < en → ltE d[en - 1]! d[s]! = true) := fun h1 h2 => by
        have h := HI.out.2 (by omega)
        rwa [show mid + m - 1 - s = en - 1 by omega] at h
      clear HI c0 c1
      by_cases hrot : s < mid
      · have hr := c_rotate gl sf g lb sb s m en d wr (by rw [hdn]; exact HSW.out) hH (Nat.lt_of_lt_of_le hgW U.size) (by omega) (by omega) (by omega) (by omega)
        rw [show ((en : Nat) : Int) = (mid : Int) + (m : Int) - (s : Int) by omega] at hr
        have hr1 : (s : Int) < (m : Int) := by omega
        have hr2 : (m : Int) < (mid : Int) + (m : Int) - (s : Int) := by omega
        obtain ⟨c0, c1⟩ := HF.out.upd U hgn
        have HU := Lib.hid U
        clear hH U
        go_wp2_with fail
        refine hr.mono ?_; rintro e w1 ⟨rfl, d1, hH1, U1, hR, p1⟩
        have HHV : Hid (Halved a s mid en b d1) := halved_of (by omega) (by omega) (by omega) (by omega) (by omega) HS.out.1 HS.out.2 HLO.out HHI.out hR
        have HW1 := Lib.hid (And.intro hH1 (updS_tr HU.out U1))
        have HP1 := Lib.hid (permIn_mono _ _ _ _ _ _ (by omega : a ≤ s) (by omega : en ≤ b) (by omega) p1)
        clear hH1 U1 hR p1 hr hr1 hr2 HU c0 c1
        by_cases j1 : a < s
        · obtain ⟨c0, c1⟩ := HF.out.upd HW1.out.2 hgn
          have hl1 : (a : Int) < (s : Int) := by omega
          have hl2 : (s : Int) < (mid : Int) := by omega
          have hm := HIH.out a s mid d1 w1 (by omega) (by omega) (by omega) (by rw [HP1.out.1]; omega) (by rw [HP1.out.1]; exact hdn) (updS_tr HU0.out HW1.out.2) HW1.out.1 (Nat.lt_of_lt_of_le hgW HW1.out.2.size) HHV.out.1 HHV.out.2.1
          go_wp2_with fail
          refine hm.mono ?_; rintro e w2 ⟨rfl, d2, hH2, U2, p2, s2⟩
          have HW2 := Lib.hid (And.intro hH2 (updS_tr HW1.out.2 U2))
          have HP2 := Lib.hid p2
          have HS2 := Lib.hid s2
          clear hH2 U2 p2 s2 hm hl1 hl2 c0 c1
          by_cases k2 : en < b
          · obtain ⟨c0, c1⟩ := HF.out.upd HW2.out.2 hgn
            have hl1 : (mid : Int) < (mid : Int) + (m : Int) - (s : Int) := by omega
            have hl2 : (mid : Int) + (m : Int) - (s : Int) < (b : Int) := by omega
            have hm := HIH.out mid en b d2 w2 (by omega) (by omega) (by omega) (by rw [HP2.out.1, HP1.out.1]; exact hb) (by rw [HP2.out.1, HP1.out.1]; exact hdn) (updS_tr HU0.out HW2.out.2) HW2.out.1 (Nat.lt_of_lt_of_le hgW HW2.out.2.size) (sorted_keep HP2.out (Nat.le_refl _) HHV.out.2.2.1) (sorted_keep HP2.out (by omega) HHV.out.2.2.2.1)
            rw [show ((en : Nat) : Int) = (mid : Int) + (m : Int) - (s : Int) by omega] at hm
            go_wp2_with fail
            refine hm.mono ?_; rintro e w3 ⟨rfl, d3, hH3, U3, p3, s3⟩
            have HX : Hid (HoE w3 g d3 ∧ UpdS (fun x => x = g) w w3 ∧ PermIn a b d d3 ∧ SortedIn ltE a b d3) := ⟨hH3, updS_tr HU1.out (updS_tr HW2.out.2 U3), permIn_trans _ _ _ _ _ HP1.out (permIn_trans _ _ _ _ _ (permIn_mono _ _ _ _ _ _ (by omega) (by omega) (by rw [HP1.out.1]; omega) HP2.out) (permIn_mono _ _ _ _ _ _ (by omega) (by omega) (by rw [HP2.out.1, HP1.out.1]; omega) p3)), merged (by omega) (by omega) (by rw [HP1.out.1]; exact hb) HHV.out.2.2.2.2 HP2.out HS2.out p3 s3⟩
            clear hH3 U3 p3 s3 hm
            go_wp2
            go_end0
            exact ⟨rfl, d3, HX.out⟩
          · have hz1 : (mid : Int) < (mid : Int) + (m : Int) - (s : Int) := by omega
            have hz2 : ¬ (mid : Int) + (m : Int) - (s : Int) < (b : Int) := by omega
            have HX : Hid (HoE w2 g d2 ∧ UpdS (fun x => x = g) w w2 ∧ PermIn a b d d2 ∧ SortedIn ltE a b d2) := ⟨HW2.out.1, updS_tr HU1.out HW2.out.2, permIn_trans _ _ _ _ _ HP1.out (permIn_mono _ _ _ _ _ _ (by omega) (by omega) (by rw [HP1.out.1]; omega) HP2.out), merged (by omega) (by omega) (by rw [HP1.out.1]; exact hb) HHV.out.2.2.2.2 HP2.out HS2.out (permIn_refl _ _ _) (halved_high HHV.out (Or.inr (by omega)) (by omega) (by omega) HP2.out)⟩
            go_wp2
            go_end0
            exact ⟨rfl, d2, HX.out⟩
        · have hy1 : ¬ (a : Int) < (s : Int) := by omega
          obtain ⟨d2, hd2⟩ : ∃ d2, d2 = d1 := ⟨_, rfl⟩
          obtain ⟨w2, hw2⟩ : ∃ w2, w2 = w1 := ⟨_, rfl⟩
          have HW2 : Hid (HoE w2 g d2 ∧ UpdS (fun x => x = g) W1 w2) := by rw [hw2, hd2]; exact HW1
          have HP2 : Hid (PermIn a mid d1 d2) := by rw [hd2]; exact permIn_refl _ _ _
          have HS2 : Hid (SortedIn ltE a mid d2) := by rw [hd2]; exact halved_low HHV.out (Or.inl (by omega)) (by omega) (by omega)
          subst hw2
          clear hd2
          by_cases k2 : en < b
          · obtain ⟨c0, c1⟩ := HF.out.upd HW2.out.2 hgn
            have hl1 : (mid : Int) < (mid : Int) + (m : Int) - (s : Int) := by omega
            have hl2 : (mid : Int) + (m : Int) - (s : Int) < (b : Int) := by omega
            have hm := HIH.out mid en b d2 w2 (by omega) (by omega) (by omega) (by rw [HP2.out.1, HP1.out.1]; exact hb) (by rw [HP2.out.1, HP1.out.1]; exact hdn) (updS_tr HU0.out HW2.out.2) HW2.out.1 (Nat.lt_of_lt_of_le hgW HW2.out.2.size) (sorted_keep HP2.out (Nat.le_refl _) HHV.out.2.2.1) (sorted_keep HP2.out (by omega) HHV.out.2.2.2.1)
            rw [show ((en : Nat) : Int) = (mid : Int) + (m : Int) - (s : Int) by omega] at hm
            go_wp2_with fail
            refine hm.mono ?_; rintro e w3 ⟨rfl, d3, hH3, U3, p3, s3⟩
            have HX : Hid (HoE w3 g d3 ∧ UpdS (fun x => x = g) w w3 ∧ PermIn a b d d3 ∧ SortedIn ltE a b d3) := ⟨hH3, updS_tr HU1.out (updS_tr HW2.out.2 U3), permIn_trans _ _ _ _ _ HP1.out (permIn_trans _ _ _ _ _ (permIn_mono _ _ _ _ _ _ (by omega) (by omega) (by rw [HP1.out.1]; omega) HP2.out) (permIn_mono _ _ _ _ _ _ (by omega) (by omega) (by rw [HP2.out.1, HP1.out.1]; omega) p3)), merged (by omega) (by omega) (by rw [HP1.out.1]; exact hb) HHV.out.2.2.2.2 HP2.out HS2.out p3 s3⟩
            clear hH3 U3 p3 s3 hm
            go_wp2
            go_end0
            exact ⟨rfl, d3, HX.out⟩
          · have hz1 : (mid : Int) < (mid : Int) + (m : Int) - (s : Int) := by omega
            have hz2 : ¬ (mid : Int) + (m : Int) - (s : Int) < (b : Int) := by omega
            have HX : Hid (HoE w2 g d2 ∧ UpdS (fun x => x = g) w w2 ∧ PermIn a b d d2 ∧ SortedIn ltE a b d2) := ⟨HW2.out.1, updS_tr HU1.out HW2.out.2, permIn_trans _ _ _ _ _ HP1.out (permIn_mono _ _ _ _ _ _ (by omega) (by omega) (by rw [HP1.out.1]; omega) HP2.out), merged (by omega) (by omega) (by rw [HP1.out.1]; exact hb) HHV.out.2.2.2.2 HP2.out HS2.out (permIn_refl _ _ _) (halved_high HHV.out (Or.inr (by omega)) (by omega) (by omega) HP2.out)⟩
            go_wp2
            go_end0
            exact ⟨rfl, d2, HX.out⟩
      · obtain ⟨d1, hd1⟩ : ∃ d1, d1 = d := ⟨_, rfl⟩
        obtain ⟨w1, hw1⟩ : ∃ w1, w1 = wr := ⟨_, rfl⟩
        have hr1 : (s : Int) < (m : Int) := by omega
        have hr2 : ¬ (m : Int) < (mid : Int) + (m : Int) - (s : Int) := by omega
        have HHV : Hid (Halved a s mid en b d1) := by rw [hd1]; exact halved_of (by omega) (by omega) (by omega) (by omega) (by omega) HS.out.1 HS.out.2 HLO.out HHI.out (Rot.none (by omega) (by omega) (by omega))
        have HW1 : Hid (HoE w1 g d1 ∧ UpdS (fun x => x = g) W1 w1) := by rw [hw1, hd1]; exact ⟨hH, U⟩
        have HP1 : Hid (PermIn a b d d1) := by rw [hd1]; exact permIn_refl _ _ _
        subst hw1
        clear hd1 hH U
        have hy1 : (a : Int) < (s : Int) := by omega
        have hy2 : ¬ (s : Int) < (mid : Int) := by omega
        obtain ⟨d2, hd2⟩ : ∃ d2, d2 = d1 := ⟨_, rfl⟩
        obtain ⟨w2, hw2⟩ : ∃ w2, w2 = w1 := ⟨_, rfl⟩
        have HW2 : Hid (HoE w2 g d2 ∧ UpdS (fun x => x = g) W1 w2) := by rw [hw2, hd2]; exact HW1
        have HP2 : Hid (PermIn a mid d1 d2) := by rw [hd2]; exact permIn_refl _ _ _
        have HS2 : Hid (SortedIn ltE a mid d2) := by rw [hd2]; exact halved_low HHV.out (Or.inr (by omega)) (by omega) (by omega)
        subst hw2
        clear hd2
        by_cases k2 : en < b
        · obtain ⟨c0, c1⟩ := HF.out.upd HW2.out.2 hgn
          have hl1 : (mid : Int) < (mid : Int) + (m : Int) - (s : Int) := by omega
          have hl2 : (mid : Int) + (m : Int) - (s : Int) < (b : Int) := by omega
          have hm := HIH.out mid en b d2 w2 (by omega) (by omega) (by omega) (by rw [HP2.out.1, HP1.out.1]; exact hb) (by rw [HP2.out.1, HP1.out.1]; exact hdn) (updS_tr HU0.out HW2.out.2) HW2.out.1 (Nat.lt_of_lt_of_le hgW HW2.out.2.size) (sorted_keep HP2.out (Nat.le_refl _) HHV.out.2.2.1) (sorted_keep HP2.out (by omega) HHV.out.2.2.2.1)
          rw [show ((en : Nat) : Int) = (mid : Int) + (m : Int) - (s : Int) by omega] at hm
          go_wp2_with fail
          refine hm.mono ?_; rintro e w3 ⟨rfl, d3, hH3, U3, p3, s3⟩
          have HX : Hid (HoE w3 g d3 ∧ UpdS (fun x => x = g) w w3 ∧ PermIn a b d d3 ∧ SortedIn ltE a b d3) := ⟨hH3, updS_tr HU1.out (updS_tr HW2.out.2 U3), permIn_trans _ _ _ _ _ HP1.out (permIn_trans _ _ _ _ _ (permIn_mono _ _ _ _ _ _ (by omega) (by omega) (by rw [HP1.out.1]; omega) HP2.out) (permIn_mono _ _ _ _ _ _ (by omega) (by omega) (by rw [HP2.out.1, HP1.out.1]; omega) p3)), merged (by omega) (by omega) (by rw [HP1.out.1]; exact hb) HHV.out.2.2.2.2 HP2.out HS2.out p3 s3⟩
          clear hH3 U3 p3 s3 hm
          go_wp2
          go_end0
          exact ⟨rfl, d3, HX.out⟩
        · have hz1 : (mid : Int) < (mid : Int) + (m : Int) - (s : Int) := by omega
          have hz2 : ¬ (mid : Int) + (m : Int) - (s : Int) < (b : Int) := by omega
          have HX : Hid (HoE w2 g d2 ∧ UpdS (fun x => x = g) w w2 ∧ PermIn a b d d2 ∧ SortedIn ltE a b d2) := ⟨HW2.out.1, updS_tr HU1.out HW2.out.2, permIn_trans _ _ _ _ _ HP1.out (permIn_mono _ _ _ _ _ _ (by omega) (by omega) (by rw [HP1.out.1]; omega) HP2.out), merged (by omega) (by omega) (by rw [HP1.out.1]; exact hb) HHV.out.2.2.2.2 HP2.out HS2.out (permIn_refl _ _ _) (halved_high HHV.out (Or.inr (by omega)) (by omega) (by omega) HP2.out)⟩
          go_wp2
          go_end0
          exact ⟨rfl, d2, HX.out⟩
-- SYMD
set_option maxHeartbeats 32000000 in
set_option maxRecDepth 100000 in
theorem c_symD (gl sf g n : Nat) (lb sb : Array Value) (eg : ∀ args w, (callFunc gl args).run Try.prog w = .ok (.enter gl args) w) (w0 : World) (hls : LessE Try.prog gl lb w0 g n) (hsw : SwapE Try.prog sf sb g n) (hsz : n ≤ 1000000) (N : Nat)
    (ih : ∀ (a m b : Nat) (d : Array Ev) (w : World), b - a ≤ N → a < m → m < b → b ≤ d.size → d.size = n → UpdS (fun x => x = g) w0 w → HoE w g d → g < w.heap.size → SortedIn ltE a m d → SortedIn ltE m b d →
    Calls Try.prog 132 #[.agg #[.func (.func gl) #[] lb, .func (.func sf) #[] sb], .int .i64 a, .int .i64 m, .int .i64 b] w fun e w' => e = .returned (.tuple #[]) ∧ ∃ d' : Array Ev, HoE w' g d' ∧ UpdS (fun x => x = g) w w' ∧ PermIn a b d d' ∧ SortedIn ltE a b d')
    (a m b mid : Nat) (d : Array Ev) (w : World) (hN : b - a ≤ N + 1) (ham : a + 2 ≤ m) (hmb : m + 2 ≤ b) (hb : b ≤ d.size) (hdn : d.size = n) (U0 : UpdS (fun x => x = g) w0 w) (hH : HoE w g d) (hg : g < w.heap.size) (hs1 : SortedIn ltE a m d) (hs2 : SortedIn ltE m b d) (hm1 : 2 * mid ≤ a + b) (hm2 : a + b < 2 * mid + 2) (hmm : m ≤ mid) :
    Calls Try.prog 132 #[.agg #[.func (.func gl) #[] lb, .func (.func sf) #[] sb], .int .i64 a, .int .i64 m, .int .i64 b] w fun e w' => e = .returned (.tuple #[]) ∧ ∃ d' : Array Ev, HoE w' g d' ∧ UpdS (fun x => x = g) w w' ∧ PermIn a b d d' ∧ SortedIn ltE a b d' := by
  have HIH := Lib.hid ih
  clear ih
  obtain ⟨W1, hW1⟩ : ∃ W1, W1 = w.alloc (.cells #[.func (.func gl) #[] lb, .func (.func sf) #[] sb] 133) := ⟨_, rfl⟩
  have HF : Hid (FnBox W1 w.heap.size gl sf lb sb) := Lib.hid (by rw [hW1]; exact fnBox_new w _ gl sf lb sb)
  have HU1 : Hid (UpdS (fun x => x = g) w W1) := Lib.hid (by rw [hW1]; exact updS_new w _)
  have H1 : Hid (HoE W1 g d) := Lib.hid (by rw [hW1]; exact hH.below ((Below.refl _ _).al _))
  have hgn : w.heap.size ≠ g := by omega
  have hgW : g < W1.heap.size := by rw [hW1]; simp; omega
  have HSW := Lib.hid hsw
  have HLS := Lib.hid hls
  have HU0 := Lib.hid (updS_tr U0 HU1.out)
  have HS := Lib.hid (And.intro hs1 hs2)
  clear hH hsw hls U0 hs1 hs2
  have t1 : ((m : Int) - (a : Int) == 1) = false := by simp; omega
  have t2 : ((b : Int) - (m : Int) == 1) = false := by simp; omega
  have t3 : ¬ ((a : Int) + (b : Int)) / 2 < (m : Int) := by omega
  go_enter Try.func132, Try.ntmps132
  go_wp2_with fail
  rw [← hW1]
  clear hW1
  obtain ⟨bx, hbx⟩ : ∃ bx, w.heap.size = bx := ⟨_, rfl⟩
  rw [hbx] at HF hgn ⊢
  clear hbx
  have hmid : ((a : Int) + (b : Int)) / 2 = (mid : Int) := by omega
  rw [hmid] at t3
  simp only [hmid]
  clear hmid
  go_loopw [18, 19] (fun vi vj wr => ∃ (i j : Nat), vi = .int .i64 i ∧ vj = .int .i64 j ∧ a ≤ i ∧ i ≤ j ∧ j ≤ m ∧ HoE wr g d ∧ UpdS (fun x => x = g) W1 wr ∧ Hid ((a < i → ltE d[mid + m - i]! d[i - 1]! = false) ∧ (j < m → ltE d[mid + m - 1 - j]! d[j]! = true))) (fun vi vj _ => (intOf vj).toNat - (intOf vi).toNat)
  case atStart => exact ⟨a, m, rfl, rfl, by omega, by omega, by omega, H1.out, UpdS.refl _ _, ⟨fun h => absurd h (by omega), fun h => absurd h (by omega)⟩⟩
  case round =>
    clear H1
    obtain ⟨i, j, rfl, rfl, hai, hij, hjb, hH, U, HI⟩ := hrel
    obtain ⟨c0, c1⟩ := HF.out.upd U hgn
    by_cases hlt : i < j
    · have hltI : (i : Int) < (j : Int) := by omega
      obtain ⟨h, hh1, hh2⟩ : ∃ h, 2 * h ≤ i + j ∧ i + j < 2 * h + 2 := ⟨(i + j) / 2, by omega, by omega⟩
      have hl := HLS.out wr d (updS_tr HU0.out U) hH hdn (mid + m - 1 - h) h (by omega) (by omega)
      rw [show ((mid + m - 1 - h : Nat) : Int) = (mid : Int) + (m : Int) - 1 - ((i : Int) + (j : Int)) / 2 by omega, show ((h : Nat) : Int) = ((i : Int) + (j : Int)) / 2 by omega] at hl
      go_wp2_with (go_at_fn gl; refine hl.mono ?_; rintro e w3 ⟨rfl, hb3⟩; refine stop_of ?_)
      unfold Stopped
      have hH3 := hH.below hb3
      have U3 := updS_tr U (UpdS.of_below (D := fun x => x = g) hb3)
      cases hlv : ltE d[mid + m - 1 - h]! d[h]!
      · have HX : Hid ((a < h + 1 → ltE d[mid + m - (h + 1)]! d[h + 1 - 1]! = false) ∧ (j < m → ltE d[mid + m - 1 - j]! d[j]! = true)) := ⟨fun _ => by rw [show mid + m - (h + 1) = mid + m - 1 - h by omega]; exact hlv, HI.out.2⟩
        have HP := Lib.hid (And.intro hH3 U3)
        clear hH3 U3 hH U hl hlv HI
        go_wp2
        exact ⟨⟨h + 1, j, by go_num, rfl, by omega, by omega, hjb, HP.out.1, HP.out.2, HX⟩, by simp [intOf]; omega⟩
      · have HX : Hid ((a < i → ltE d[mid + m - i]! d[i - 1]! = false) ∧ (h < m → ltE d[mid + m - 1 - h]! d[h]! = true)) := ⟨HI.out.1, fun _ => hlv⟩
        have HP := Lib.hid (And.intro hH3 U3)
        clear hH3 U3 hH U hl hlv HI
        go_wp2
        exact ⟨⟨i, h, rfl, by congr 1; omega, hai, by omega, by omega, HP.out.1, HP.out.2, HX⟩, by simp [intOf]; omega⟩
    · have hltI : ¬ (i : Int) < (j : Int) := by omega
      obtain ⟨s, hse⟩ : ∃ s, s = i := ⟨_, rfl⟩
      have hie : s = j := by omega
      rw [← hie, ← hse] at HI
      subst hie
      subst hse
      clear hlt
      obtain ⟨en, hen1, hen2⟩ : ∃ en, en + s ≤ mid + m ∧ mid + m ≤ en + s := ⟨mid + m - s, by omega, by omega⟩
      have HLO : Hid (a < s → en < b → ltE d[en]! d[s - 1]! = false) := fun h1 h2 => by
        have h := HI.out.1 (by omega)
        rwa [show mid + m - s = en by omega] at h
      have HHI : Hid (s < m → m < en → ltE d[en - 1]! d[s]! = true) := fun h1 h2 => by
        have h := HI.out.2 (by omega)
        rwa [show mid + m - 1 - s = en - 1 by omega] at h
      clear HI c0 c1
      by_cases hrot : s < m
      · have hr := c_rotate gl sf g lb sb s m en d wr (by rw [hdn]; exact HSW.out) hH (Nat.lt_of_lt_of_le hgW U.size) (by omega) (by omega) (by omega) (by omega)
        rw [show ((en : Nat) : Int) = (mid : Int) + (m : Int) - (s : Int) by omega] at hr
        have hr1 : (s : Int) < (m : Int) := by omega
        have hr2 : (m : Int) < (mid : Int) + (m : Int) - (s : Int) := by omega
        obtain ⟨c0, c1⟩ := HF.out.upd U hgn
        have HU := Lib.hid U
        clear hH U
        go_wp2_with fail
        refine hr.mono ?_; rintro e w1 ⟨rfl, d1, hH1, U1, hR, p1⟩
        have HHV : Hid (Halved a s mid en b d1) := halved_of (by omega) (by omega) (by omega) (by omega) (by omega) HS.out.1 HS.out.2 HLO.out HHI.out hR
        have HW1 := Lib.hid (And.intro hH1 (updS_tr HU.out U1))
        have HP1 := Lib.hid (permIn_mono _ _ _ _ _ _ (by omega : a ≤ s) (by omega : en ≤ b) (by omega) p1)
        clear hH1 U1 hR p1 hr hr1 hr2 HU c0 c1
        by_cases j1 : a < s
        · obtain ⟨c0, c1⟩ := HF.out.upd HW1.out.2 hgn
          have hl1 : (a : Int) < (s : Int) := by omega
          have hl2 : (s : Int) < (mid : Int) := by omega
          have hm := HIH.out a s mid d1 w1 (by omega) (by omega) (by omega) (by rw [HP1.out.1]; omega) (by rw [HP1.out.1]; exact hdn) (updS_tr HU0.out HW1.out.2) HW1.out.1 (Nat.lt_of_lt_of_le hgW HW1.out.2.size) HHV.out.1 HHV.out.2.1
          go_wp2_with fail
          refine hm.mono ?_; rintro e w2 ⟨rfl, d2, hH2, U2, p2, s2⟩
          have HW2 := Lib.hid (And.intro hH2 (updS_tr HW1.out.2 U2))
          have HP2 := Lib.hid p2
          have HS2 := Lib.hid s2
          clear hH2 U2 p2 s2 hm hl1 hl2 c0 c1
          obtain ⟨c0, c1⟩ := HF.out.upd HW2.out.2 hgn
          have k2 : en < b := by omega
          have hl1 : (mid : Int) < (mid : Int) + (m : Int) - (s : Int) := by omega
          have hl2 : (mid : Int) + (m : Int) - (s : Int) < (b : Int) := by omega
          have hm := HIH.out mid en b d2 w2 (by omega) (by omega) (by omega) (by rw [HP2.out.1, HP1.out.1]; exact hb) (by rw [HP2.out.1, HP1.out.1]; exact hdn) (updS_tr HU0.out HW2.out.2) HW2.out.1 (Nat.lt_of_lt_of_le hgW HW2.out.2.size) (sorted_keep HP2.out (Nat.le_refl _) HHV.out.2.2.1) (sorted_keep HP2.out (by omega) HHV.out.2.2.2.1)
          rw [show ((en : Nat) : Int) = (mid : Int) + (m : Int) - (s : Int) by omega] at hm
          go_wp2_with fail
          refine hm.mono ?_; rintro e w3 ⟨rfl, d3, hH3, U3, p3, s3⟩
          have HX : Hid (HoE w3 g d3 ∧ UpdS (fun x => x = g) w w3 ∧ PermIn a b d d3 ∧ SortedIn ltE a b d3) := ⟨hH3, updS_tr HU1.out (updS_tr HW2.out.2 U3), permIn_trans _ _ _ _ _ HP1.out (permIn_trans _ _ _ _ _ (permIn_mono _ _ _ _ _ _ (by omega) (by omega) (by rw [HP1.out.1]; omega) HP2.out) (permIn_mono _ _ _ _ _ _ (by omega) (by omega) (by rw [HP2.out.1, HP1.out.1]; omega) p3)), merged (by omega) (by omega) (by rw [HP1.out.1]; exact hb) HHV.out.2.2.2.2 HP2.out HS2.out p3 s3⟩
          clear hH3 U3 p3 s3 hm
          go_wp2
          go_end0
          exact ⟨rfl, d3, HX.out⟩
        · have hy1 : ¬ (a : Int) < (s : Int) := by omega
          obtain ⟨d2, hd2⟩ : ∃ d2, d2 = d1 := ⟨_, rfl⟩
          obtain ⟨w2, hw2⟩ : ∃ w2, w2 = w1 := ⟨_, rfl⟩
          have HW2 : Hid (HoE w2 g d2 ∧ UpdS (fun x => x = g) W1 w2) := by rw [hw2, hd2]; exact HW1
          have HP2 : Hid (PermIn a mid d1 d2) := by rw [hd2]; exact permIn_refl _ _ _
          have HS2 : Hid (SortedIn ltE a mid d2) := by rw [hd2]; exact halved_low HHV.out (Or.inl (by omega)) (by omega) (by omega)
          subst hw2
          clear hd2
          by_cases k2 : en < b
          · obtain ⟨c0, c1⟩ := HF.out.upd HW2.out.2 hgn
            have hl1 : (mid : Int) < (mid : Int) + (m : Int) - (s : Int) := by omega
            have hl2 : (mid : Int) + (m : Int) - (s : Int) < (b : Int) := by omega
            have hm := HIH.out mid en b d2 w2 (by omega) (by omega) (by omega) (by rw [HP2.out.1, HP1.out.1]; exact hb) (by rw [HP2.out.1, HP1.out.1]; exact hdn) (updS_tr HU0.out HW2.out.2) HW2.out.1 (Nat.lt_of_lt_of_le hgW HW2.out.2.size) (sorted_keep HP2.out (Nat.le_refl _) HHV.out.2.2.1) (sorted_keep HP2.out (by omega) HHV.out.2.2.2.1)
            rw [show ((en : Nat) : Int) = (mid : Int) + (m : Int) - (s : Int) by omega] at hm
            go_wp2_with fail
            refine hm.mono ?_; rintro e w3 ⟨rfl, d3, hH3, U3, p3, s3⟩
            have HX : Hid (HoE w3 g d3 ∧ UpdS (fun x => x = g) w w3 ∧ PermIn a b d d3 ∧ SortedIn ltE a b d3) := ⟨hH3, updS_tr HU1.out (updS_tr HW2.out.2 U3), permIn_trans _ _ _ _ _ HP1.out (permIn_trans _ _ _ _ _ (permIn_mono _ _ _ _ _ _ (by omega) (by omega) (by rw [HP1.out.1]; omega) HP2.out) (permIn_mono _ _ _ _ _ _ (by omega) (by omega) (by rw [HP2.out.1, HP1.out.1]; omega) p3)), merged (by omega) (by omega) (by rw [HP1.out.1]; exact hb) HHV.out.2.2.2.2 HP2.out HS2.out p3 s3⟩
            clear hH3 U3 p3 s3 hm
            go_wp2
            go_end0
            exact ⟨rfl, d3, HX.out⟩
          · have hz1 : (mid : Int) < (mid : Int) + (m : Int) - (s : Int) := by omega
            have hz2 : ¬ (mid : Int) + (m : Int) - (s : Int) < (b : Int) := by omega
            have HX : Hid (HoE w2 g d2 ∧ UpdS (fun x => x = g) w w2 ∧ PermIn a b d d2 ∧ SortedIn ltE a b d2) := ⟨HW2.out.1, updS_tr HU1.out HW2.out.2, permIn_trans _ _ _ _ _ HP1.out (permIn_mono _ _ _ _ _ _ (by omega) (by omega) (by rw [HP1.out.1]; omega) HP2.out), merged (by omega) (by omega) (by rw [HP1.out.1]; exact hb) HHV.out.2.2.2.2 HP2.out HS2.out (permIn_refl _ _ _) (halved_high HHV.out (Or.inr (by omega)) (by omega) (by omega) HP2.out)⟩
            go_wp2
            go_end0
            exact ⟨rfl, d2, HX.out⟩
      · obtain ⟨d1, hd1⟩ : ∃ d1, d1 = d := ⟨_, rfl⟩
        obtain ⟨w1, hw1⟩ : ∃ w1, w1 = wr := ⟨_, rfl⟩
        have hr1 : ¬ (s : Int) < (m : Int) := by omega
        have HHV : Hid (Halved a s mid en b d1) := by rw [hd1]; exact halved_of (by omega) (by omega) (by omega) (by omega) (by omega) HS.out.1 HS.out.2 HLO.out HHI.out (Rot.none (by omega) (by omega) (by omega))
        have HW1 : Hid (HoE w1 g d1 ∧ UpdS (fun x => x = g) W1 w1) := by rw [hw1, hd1]; exact ⟨hH, U⟩
        have HP1 : Hid (PermIn a b d d1) := by rw [hd1]; exact permIn_refl _ _ _
        subst hw1
        clear hd1 hH U
        by_cases j2 : s < mid
        · obtain ⟨c0, c1⟩ := HF.out.upd HW1.out.2 hgn
          have hl1 : (a : Int) < (s : Int) := by omega
          have hl2 : (s : Int) < (mid : Int) := by omega
          have hm := HIH.out a s mid d1 w1 (by omega) (by omega) (by omega) (by rw [HP1.out.1]; omega) (by rw [HP1.out.1]; exact hdn) (updS_tr HU0.out HW1.out.2) HW1.out.1 (Nat.lt_of_lt_of_le hgW HW1.out.2.size) HHV.out.1 HHV.out.2.1
          go_wp2_with fail
          refine hm.mono ?_; rintro e w2 ⟨rfl, d2, hH2, U2, p2, s2⟩
          have HW2 := Lib.hid (And.intro hH2 (updS_tr HW1.out.2 U2))
          have HP2 := Lib.hid p2
          have HS2 := Lib.hid s2
          clear hH2 U2 p2 s2 hm hl1 hl2 c0 c1
          have hz1 : ¬ (mid : Int) < (mid : Int) + (m : Int) - (s : Int) := by omega
          have HX : Hid (HoE w2 g d2 ∧ UpdS (fun x => x = g) w w2 ∧ PermIn a b d d2 ∧ SortedIn ltE a b d2) := ⟨HW2.out.1, updS_tr HU1.out HW2.out.2, permIn_trans _ _ _ _ _ HP1.out (permIn_mono _ _ _ _ _ _ (by omega) (by omega) (by rw [HP1.out.1]; omega) HP2.out), merged (by omega) (by omega) (by rw [HP1.out.1]; exact hb) HHV.out.2.2.2.2 HP2.out HS2.out (permIn_refl _ _ _) (halved_high HHV.out (Or.inl (by omega)) (by omega) (by omega) HP2.out)⟩
          go_wp2
          go_end0
          exact ⟨rfl, d2, HX.out⟩
        · have hy1 : (a : Int) < (s : Int) := by omega
          have hy2 : ¬ (s : Int) < (mid : Int) := by omega
          obtain ⟨d2, hd2⟩ : ∃ d2, d2 = d1 := ⟨_, rfl⟩
          obtain ⟨w2, hw2⟩ : ∃ w2, w2 = w1 := ⟨_, rfl⟩
          have HW2 : Hid (HoE w2 g d2 ∧ UpdS (fun x => x = g) W1 w2) := by rw [hw2, hd2]; exact HW1
          have HP2 : Hid (PermIn a mid d1 d2) := by rw [hd2]; exact permIn_refl _ _ _
          have HS2 : Hid (SortedIn ltE a mid d2) := by rw [hd2]; exact halved_low HHV.out (Or.inr (by omega)) (by omega) (by omega)
          subst hw2
          clear hd2
          have hz1 : ¬ (mid : Int) < (mid : Int) + (m : Int) - (s : Int) := by omega
          have HX : Hid (HoE w2 g d2 ∧ UpdS (fun x => x = g) w w2 ∧ PermIn a b d d2 ∧ SortedIn ltE a b d2) := ⟨HW2.out.1, updS_tr HU1.out HW2.out.2, permIn_trans _ _ _ _ _ HP1.out (permIn_mono _ _ _ _ _ _ (by omega) (by omega) (by rw [HP1.out.1]; omega) HP2.out), merged (by omega) (by omega) (by rw [HP1.out.1]; exact hb) HHV.out.2.2.2.2 HP2.out HS2.out (permIn_refl _ _ _) (halved_high HHV.out (Or.inl (by omega)) (by omega) (by omega) HP2.out)⟩
          go_wp2
          go_end0
          exact ⟨rfl, d2, HX.out⟩
theorem c_symMerge (gl sf g n : Nat) (lb sb : Array Value) (eg : ∀ args w, (callFunc gl args).run Try.prog w = .ok (.enter gl args) w) (w0 : World) (hls : LessE Try.prog gl lb w0 g n) (hsw : SwapE Try.prog sf sb g n) (hsz : n ≤ 1000000) (N : Nat) :
    ∀ (a m b : Nat) (d : Array Ev) (w : World), b - a ≤ N → a < m → m < b → b ≤ d.size → d.size = n → UpdS (fun x => x = g) w0 w → HoE w g d → g < w.heap.size → SortedIn ltE a m d → SortedIn ltE m b d →
    Calls Try.prog 132 #[.agg #[.func (.func gl) #[] lb, .func (.func sf) #[] sb], .int .i64 a, .int .i64 m, .int .i64 b] w fun e w' => e = .returned (.tuple #[]) ∧ ∃ d' : Array Ev, HoE w' g d' ∧ UpdS (fun x => x = g) w w' ∧ PermIn a b d d' ∧ SortedIn ltE a b d' := by
  induction N with
  | zero => intro a m b d w h1 h2 h3; omega
  | succ N ih =>
    intro a m b d w hN ham hmb hb hdn U0 hH hg hs1 hs2
    by_cases h1 : m ≤ a + 1
    · exact c_symA gl sf g n lb sb eg w0 hls hsw hsz a m b d w h1 ham hmb hb hdn U0 hH hg hs2
    · by_cases h2 : b ≤ m + 1
      · exact c_symB gl sf g n lb sb eg w0 hls hsw hsz a m b d w (by omega) hmb h2 hb hdn U0 hH hg hs1
      · by_cases h3 : (a + b) / 2 < m
        · exact c_symC gl sf g n lb sb eg w0 hls hsw hsz N ih a m b ((a + b) / 2) d w hN (by omega) (by omega) hb hdn U0 hH hg hs1 hs2 (by omega) (by omega) h3
        · exact c_symD gl sf g n lb sb eg w0 hls hsw hsz N ih a m b ((a + b) / 2) d w hN (by omega) (by omega) hb hdn U0 hH hg hs1 hs2 (by omega) (by omega) (by omega)
end Go.Proofs.Ytgcmnpimkfmccaa
