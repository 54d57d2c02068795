/- Contracts of the laws' helpers on slices of events: eq, mark, held. -/
import Derived.Test.YtgcmnpimkfmccaaEvM
import Derived.Test.YtgcmnpimkfmccaaLawC
import Derived.Deep.RegionHeld3
namespace Go.Proofs.Ytgcmnpimkfmccaa
open Go.ChangeShapes Go.WideShapes Go.ChangeAt Go.RowKit Go.Sort
set_option linter.unusedSimpArgs false
set_option linter.unusedVariables false
def mixV {β : Type} (d : β) (f : Nat → β) (X : List β) (k : Nat) : List β := (List.range X.length).map fun i => if i < k then f i else X.getD i d
theorem mixV_len {β : Type} (d : β) (f : Nat → β) (X : List β) (k : Nat) : (mixV d f X k).length = X.length := by simp [mixV]
theorem mixV_at {β : Type} (d : β) (f : Nat → β) (X : List β) (k i : Nat) (hi : i < (mixV d f X k).length) : (mixV d f X k)[i] = if i < k then f i else X.getD i d := by simp [mixV]
theorem mixV_get {β : Type} (d : β) (f : Nat → β) (X : List β) (k i : Nat) (hi : i < X.length) : (mixV d f X k).getD i d = if i < k then f i else X.getD i d := by
  have h1 : i < (mixV d f X k).length := by rw [mixV_len]; exact hi
  have e : (mixV d f X k).getD i d = (mixV d f X k)[i] := by simp [List.getD, h1]
  rw [e, mixV_at]
theorem mixV_zero {β : Type} (d : β) (f : Nat → β) (X : List β) : mixV d f X 0 = X := by
  apply List.ext_getElem
  · simp [mixV_len]
  · intro i h1 h2
    rw [mixV_at, if_neg (by omega)]
    simp [List.getD, h2]
theorem mixV_succ {β : Type} (d : β) (f : Nat → β) (X : List β) (k : Nat) : (mixV d f X k).set k (f k) = mixV d f X (k + 1) := by
  apply List.ext_getElem
  · simp [mixV_len]
  · intro i h1 h2
    rw [mixV_at, List.getElem_set]
    by_cases hik : k = i
    · subst hik
      rw [if_pos rfl, if_pos (by omega)]
    · rw [if_neg hik, mixV_at]
      by_cases hlt : i < k
      · rw [if_pos hlt, if_pos (by omega)]
      · rw [if_neg hlt, if_neg (by omega)]
theorem rdE_at {w : World} {a : Option Addr} {n cap : Nat} {L : List Ev} (h : RdRow 4 rowE w (.slice a n cap) L) (k : Nat) (hk : k < L.length) : ∃ b off, a = some ⟨b, off, none⟩ ∧
    w.cell? ⟨b, off + k * 4, none⟩ = some (.int .i64 L[k].tick) ∧ w.cell? ⟨b, off + k * 4 + 1, none⟩ = some (.bool L[k].thr) ∧ w.cell? ⟨b, off + k * 4 + 2, none⟩ = some (.int .i64 L[k].hand) ∧ w.cell? ⟨b, off + k * 4 + 3, none⟩ = some (.int .i64 L[k].prop) := by
  obtain ⟨a', cap', he, _, hc⟩ := h
  cases he
  obtain ⟨b, off, ha, hx⟩ := hc k hk
  refine ⟨b, off, ha, ?_, hx 1 _ rfl, hx 2 _ rfl, hx 3 _ rfl⟩
  have h0 := hx 0 _ rfl
  rw [Nat.add_zero] at h0; exact h0
theorem c_laws_eqEvent (a : Int) (b : Bool) (c d : Int) (w : World) :
    Calls Try.prog 67 #[.agg #[.int .i64 a, .bool b, .int .i64 c, .int .i64 d], .agg #[.int .i64 a, .bool b, .int .i64 c, .int .i64 d]] w fun e w' => e = .returned (.bool true) ∧ Below w.heap.size w w' := by
  have t1 : (a != a) = false := by simp
  have t2 : (b != b) = false := by simp
  have t3 : (c != c) = false := by simp
  have t4 : (d != d) = false := by simp
  go_enter Try.func67, Try.ntmps67
  go_wp2
  go_ret
  exact ⟨rfl, by (repeat (first | (with_reducible assumption) | (with_reducible exact Below.refl _ _) | (with_reducible refine Below.setCell ?_ (by first | (simp; done) | (simp; omega)) _) | (with_reducible refine Below.al ?_ _) | (with_reducible refine Below.dr ?_) | (with_reducible refine Below.drN ?_ _) | (with_reducible refine Below.tr ?_ (by with_reducible assumption))))⟩
set_option maxHeartbeats 2000000 in
set_option maxRecDepth 100000 in
theorem c_laws_eqEventS (xs : List Ev) (v1 v2 : Value) (w : World) (h1 : RdRow 4 rowE w v1 xs) (h2 : RdRow 4 rowE w v2 xs) :
    Calls Try.prog 22 #[v1, v2] w fun e w' => e = .returned (.bool true) ∧ Below w.heap.size w w' := by
  have h1' := h1
  have h2' := h2
  obtain ⟨a1, cap1, rfl, hl1, _⟩ := h1'
  obtain ⟨a2, cap2, rfl, _, _⟩ := h2'
  have hb0 : ((xs.length : Int) != (xs.length : Int)) = false := by simp
  go_enter Try.func22, Try.ntmps22
  go_wp2
  go_loopw [5] (fun i wr => ∃ k : Nat, k ≤ xs.length ∧ i = .int .i64 k ∧ Below w.heap.size w wr) (fun i _ => xs.length - (intOf i).toNat)
  case atStart => exact ⟨0, by omega, rfl, Below.refl _ _⟩
  case round =>
    obtain ⟨k, hk, rfl, hb⟩ := hrel
    obtain ⟨wo, rfl⟩ : ∃ wo : World, wo = wr := ⟨_, rfl⟩
    by_cases hlt : k < xs.length
    · obtain ⟨b1, o1, rfl, x0, x1, x2, x3⟩ := rdE_at (h1.below hb) k hlt
      obtain ⟨b2, o2, rfl, y0, y1, y2, y3⟩ := rdE_at (h2.below hb) k hlt
      generalize xs[k].tick = f at x0 y0
      generalize xs[k].thr = t at x1 y1
      generalize xs[k].hand = o at x2 y2
      generalize xs[k].prop = u at x3 y3
      have hin0 : (0 : Int) ≤ (k : Int) := Int.natCast_nonneg _
      have hin1 : (k : Int) < (xs.length : Int) := by omega
      clear h1 h2
      go_wp2_with fail
      go_region_held3 (fun w' => w'.cell? ⟨b1, o1 + k * 4, none⟩ = some (.int .i64 f) ∧ w'.cell? ⟨b1, o1 + k * 4 + 1, none⟩ = some (.bool t) ∧ w'.cell? ⟨b1, o1 + k * 4 + 2, none⟩ = some (.int .i64 o) ∧ w'.cell? ⟨b1, o1 + k * 4 + 3, none⟩ = some (.int .i64 u) ∧ w'.cell? ⟨b2, o2 + k * 4, none⟩ = some (.int .i64 f) ∧ w'.cell? ⟨b2, o2 + k * 4 + 1, none⟩ = some (.bool t) ∧ w'.cell? ⟨b2, o2 + k * 4 + 2, none⟩ = some (.int .i64 o) ∧ w'.cell? ⟨b2, o2 + k * 4 + 3, none⟩ = some (.int .i64 u))
        (go_keep)
        ((go_at_call 67; refine (c_laws_eqEvent f t o u _).mono ?_; rintro e w4 ⟨rfl, hb4⟩; have hb4' := below_drew hb4; have q0 := keepc hb4' x0; have q1 := keepc hb4' x1; have q2 := keepc hb4' x2; have q3 := keepc hb4' x3; have r0 := keepc hb4' y0; have r1 := keepc hb4' y1; have r2 := keepc hb4' y2; have r3 := keepc hb4' y3))
      go_wp2
      go_roundw
      case rel => exact ⟨k + 1, by omega, by go_num, hb.tr hb4'⟩
      case measure => simp [intOf]; omega
    · go_wp2
      go_ret
      exact ⟨rfl, hb⟩
/-- events in a block from lo up to hi -/
def EvR (lo hi : Nat) (w : World) (u : Value) (L : List Ev) : Prop :=
  (u = .slice none 0 0 ∧ L = []) ∨ ∃ g c, u = .slice (some ⟨g, 0, none⟩) L.length c ∧ lo ≤ g ∧ g < hi ∧ g < w.heap.size ∧ HoE w g L.toArray
theorem EvAt.r {lo : Nat} {w : World} {u : Value} {L : List Ev} (h : EvAt lo w u L) : EvR lo w.heap.size w u L := by
  rcases h with h | ⟨g, c, h1, h2, h3, h4⟩
  · exact Or.inl h
  · exact Or.inr ⟨g, c, h1, h2, h3, h3, h4⟩
theorem EvR.at {lo hi : Nat} {w : World} {u : Value} {L : List Ev} (h : EvR lo hi w u L) : EvAt lo w u L := by
  rcases h with h | ⟨g, c, h1, h2, h3, h4, h5⟩
  · exact Or.inl h
  · exact Or.inr ⟨g, c, h1, h2, h4, h5⟩
theorem EvR.below {lo hi : Nat} {w w' : World} {u : Value} {L : List Ev} (h : EvR lo hi w u L) (hb : Below w.heap.size w w') : EvR lo hi w' u L := by
  rcases h with h | ⟨g, c, h1, h2, h3, h4, h5⟩
  · exact Or.inl h
  · exact Or.inr ⟨g, c, h1, h2, h3, Nat.lt_of_lt_of_le h4 hb.size, h5.below hb⟩
theorem EvR.upd {lo hi lo' hi' : Nat} {w w' : World} {u : Value} {L : List Ev} (h : EvR lo hi w u L) (hb : Upd lo' hi' w w') (hd : hi ≤ lo' ∨ hi' ≤ lo) : EvR lo hi w' u L := by
  rcases h with h | ⟨g, c, h1, h2, h3, h4, h5⟩
  · exact Or.inl h
  · refine Or.inr ⟨g, c, h1, h2, h3, Nat.lt_of_lt_of_le h4 hb.size, fun j hj => ?_⟩
    have e : w'.heap[g]? = w.heap[g]? := hb.block g (by omega) h4
    obtain ⟨k1, k2⟩ := h5 j hj
    exact ⟨(World.cell?_of_block (w := w) e).trans k1, by rw [← k2]; exact World.frozen?_of_block e⟩
def markEv (q : Int) (i : Nat) : Ev := ⟨q + 4 * (i : Int), decide ((q + 4 * (i : Int) + 1) % 3 = 0), q + 4 * (i : Int) + 1 + 1, q + 4 * (i : Int) + 1 + 1 + 1⟩
def marksE (q : Int) (L : List Ev) (k : Nat) : List Ev := mixV default (markEv q) L k
theorem hoE_set {w : World} {g : Nat} {L : List Ev} (h : HoE w g L.toArray) (k : Nat) (hk : k < L.length) (e : Ev) : HoE (w.setCells g (k * 4) (rowE e)) g (L.set k e).toArray := by
  refine hoE_of (fun i hi c hc => ?_)
  have hi' : i < L.length := by simpa using hi
  have h1 := HoldsK.cell h (i := i) (c := c) (by simpa using hi') hc
  rw [Nat.zero_add] at h1
  refine ⟨?_, by rw [frozen_setCells]; exact h1.2⟩
  have hx : (L.set k e).toArray[i]! = if k = i then e else L.toArray[i]! := by
    simp [hi', List.getElem_set]
  rw [hx]
  by_cases hki : k = i
  · subst hki
    rw [if_pos rfl]
    have hl : c < (rowE e).length := by rw [rowE_len]; exact hc
    rw [getElem!_pos _ c hl]
    exact World.cell?_setCells_in g (rowE e) (k * 4) w (fun j hj => by
      have := (HoldsK.cell h (i := k) (c := j) (by simpa using hk) (by rw [rowE_len] at hj; exact hj)).1
      rw [Nat.zero_add] at this
      rw [this]; rfl) c hl
  · rw [if_neg hki, World.cell?_setCells_out g (rowE e) (k * 4) w _ (fun _ _ => by rw [rowE_len]; show i * 4 + c < k * 4 ∨ k * 4 + 4 ≤ i * 4 + c; omega)]
    exact h1.1
set_option maxHeartbeats 4000000 in
set_option maxRecDepth 100000 in
theorem c_laws_markEventS (lo hi : Nat) (L : List Ev) (q : Int) (v : Value) (w : World) (h : EvR lo hi w v L) (hq : 0 ≤ q) (hq2 : q + 4 * L.length < 4611686018427387904) :
    Calls Try.prog 25 #[v, .int .i64 q] w fun e w' => e = .returned (.int .i64 (q + 4 * L.length)) ∧ EvR lo hi w' v (marksE q L L.length) ∧ Upd lo hi w w' := by
  rcases h with ⟨hv, hx⟩ | ⟨g, cap, hv, hlo, hghi, hgw, hH⟩
  · subst hv
    subst hx
    go_enter Try.func25, Try.ntmps25
    go_wp2
    refine wp_loop_rounds 1 ?_
    rw [rounds_succ]
    go_wp2
    go_ret
    exact ⟨by simp, Or.inl ⟨rfl, rfl⟩, Upd.of_below (Below.refl _ _)⟩
  · subst hv
    go_enter Try.func25, Try.ntmps25
    go_wp2
    go_loopw [1, 5] (fun c i wr => ∃ k : Nat, k ≤ L.length ∧ i = .int .i64 k ∧ c = .int .i64 (q + 4 * k) ∧ HoE wr g (marksE q L k).toArray ∧ Upd lo hi w wr) (fun _ i _ => L.length - (intOf i).toNat)
    case atStart => exact ⟨0, by omega, rfl, by simp, by unfold marksE; rw [mixV_zero]; exact hH, Upd.of_below (Below.refl _ _)⟩
    case round =>
      obtain ⟨k, hk, rfl, rfl, hM, hu⟩ := hrel
      by_cases hlt : k < L.length
      · have hml : (marksE q L k).length = L.length := mixV_len _ _ _ _
        have HC := Lib.hid (fun c (hc : c < 4) => HoldsK.cell hM (i := k) (c := c) (by simpa [hml] using hlt) hc)
        obtain ⟨k0, f0⟩ := HC.out 0 (by omega)
        obtain ⟨k1, f1⟩ := HC.out 1 (by omega)
        obtain ⟨k2, f2⟩ := HC.out 2 (by omega)
        obtain ⟨k3, f3⟩ := HC.out 3 (by omega)
        rw [Nat.zero_add] at k0 k1 k2 k3 f0 f1 f2 f3
        rw [Nat.add_zero] at k0 f0
        have HS := Lib.hid (hoE_set hM k (by rw [hml]; exact hlt) (markEv q k))
        have HU : Hid (Upd lo hi wr _) := (setCells_upd (D := fun b => b = g) rfl (rowE (markEv q k)) (k * 4) wr).upd (fun b _ hb => by have e : b = g := hb; omega)
        have HE : Hid ((marksE q L k).set k (markEv q k) = marksE q L (k + 1)) := mixV_succ _ _ _ _
        rw [HE.out] at HS
        have tk : ((q + 4 * (k : Int) + 1) % 3 == 0) = decide ((q + 4 * (k : Int) + 1) % 3 = 0) := rfl
        clear hM hml
        go_wp2
        exact ⟨⟨k + 1, by omega, by go_num, by (congr 1; omega), HS.out, hu.trans HU.out⟩, by simp [intOf]; omega⟩
      · obtain rfl : k = L.length := by omega
        go_wp2
        go_ret
        exact ⟨rfl, Or.inr ⟨g, cap, by rw [show (marksE q L L.length).length = L.length from mixV_len _ _ _ _], hlo, hghi, Nat.lt_of_lt_of_le hgw hu.size, hM⟩, hu⟩
set_option maxHeartbeats 2000000 in
set_option maxRecDepth 100000 in
theorem c_laws_heldEventS (L : List Ev) (q : Int) (v : Value) (w : World) (h : RdRow 4 rowE w v (marksE q L L.length)) (hq : 0 ≤ q) (hq2 : q + 4 * L.length < 4611686018427387904) :
    Calls Try.prog 26 #[v, .int .i64 q] w fun e w' => e = .returned (.int .i64 (q + 4 * L.length)) ∧ w = w' := by
  have hml : (marksE q L L.length).length = L.length := mixV_len _ _ _ _
  have h' := h
  obtain ⟨a1, cap1, rfl, hl1, _⟩ := h'
  rw [hml] at hl1 h ⊢
  go_enter Try.func26, Try.ntmps26
  go_wp2
  go_loop [1, 5] (fun c i => ∃ k : Nat, k ≤ L.length ∧ i = .int .i64 k ∧ c = .int .i64 (q + 4 * k)) (fun _ i => L.length - (intOf i).toNat)
  case atStart => exact ⟨0, by omega, rfl, by simp⟩
  case round =>
    obtain ⟨k, hk, rfl, rfl⟩ := hrel
    by_cases hlt : k < L.length
    · obtain ⟨b1, o1, rfl, x0, x1, x2, x3⟩ := rdE_at h k (by rw [hml]; exact hlt)
      have he : (marksE q L L.length)[k]'(by rw [hml]; exact hlt) = markEv q k := by
        unfold marksE
        rw [mixV_at, if_pos hlt]
      rw [he] at x0 x1 x2 x3
      simp only [markEv] at x0 x1 x2 x3
      have t0 : ((q + 4 * (k : Int)) != (q + 4 * (k : Int))) = false := by simp
      have t2 : ((q + 4 * (k : Int) + 1 + 1) != (q + 4 * (k : Int) + 1 + 1)) = false := by simp
      have t3 : ((q + 4 * (k : Int) + 1 + 1 + 1) != (q + 4 * (k : Int) + 1 + 1 + 1)) = false := by simp
      clear h hml he
      by_cases hz : (q + 4 * (k : Int) + 1) % 3 = 0
      · rw [decide_eq_true hz] at x1
        have hz1 : ((q + 4 * (k : Int) + 1) % 3 == 0) = true := beq_iff_eq.2 hz
        clear hz
        go_wp2
        exact ⟨⟨k + 1, by omega, by go_num, by (congr 1; omega)⟩, by simp [intOf]; omega⟩
      · rw [decide_eq_false hz] at x1
        have hz1 : ((q + 4 * (k : Int) + 1) % 3 == 0) = false := beq_eq_false_iff_ne.2 hz
        clear hz
        go_wp2
        exact ⟨⟨k + 1, by omega, by go_num, by (congr 1; omega)⟩, by simp [intOf]; omega⟩
    · obtain rfl : k = L.length := by omega
      go_wp2
      go_ret
      exact ⟨rfl, rfl⟩
end Go.Proofs.Ytgcmnpimkfmccaa
