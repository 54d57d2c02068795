/- Contracts of the laws' helpers on slices of slices of strings: eq, mark, held. -/
import Derived.Test.YtddfdppoclnpcaaLawS
import Derived.Test.YtddfdppoclnpcaaMemGS
import Derived.Test.YtddfdppoclnpcaaKeep
namespace Go.Proofs.Ytddfdppoclnpcaa
open Go.ChangeShapes Go.WideShapes Go.ChangeAt Go.RowKit
set_option linter.unusedVariables false
set_option linter.unusedSimpArgs false
abbrev OwnSS (lo hi : Nat) (w : World) (v : Value) (X : List (List ByteArray)) : Prop := OwnGS rowT 25 9 lo hi w v X
theorem OwnGS.nil {lo hi : Nat} (w : World) : OwnSS lo hi w (.slice none 0 0) [] :=
  ⟨[], rfl, ⟨by simp, Or.inl ⟨rfl, rfl⟩⟩, fun k hk => by simp [Value.ownBlock] at hk, fun i hi => by simp at hi, fun i j hi => by simp at hi, fun i b hi => by simp at hi⟩
def markGT (q : Nat) (X : List (List ByteArray)) (i : Nat) : List ByteArray := marksT (q + sumR (X.take i)) (X.getD i []).length
def marksGT (q : Nat) (X : List (List ByteArray)) : List (List ByteArray) := mixR (markGT q X) X X.length
/-- a row in a block of its own -/
theorem own_tight {lo hi : Nat} {w : World} {u : Value} {p : List ByteArray} (h : OwnT lo hi w u p) : ∃ l2 h2, OwnT l2 h2 w u p ∧ h2 ≤ w.heap.size ∧
    lo ≤ l2 ∧ (∀ w2, Upd l2 h2 w w2 → Upd lo hi w w2) ∧ ∀ w2, Upd l2 h2 w w2 → ∀ k, k < w.heap.size → some k ≠ u.ownBlock → w2.heap[k]? = w.heap[k]? := by
  have hl := World.ownsRow.lt h.1
  have hhi := h.2
  obtain ⟨h1, hd⟩ := h.1
  rcases hd with ⟨hv, hn⟩ | ⟨g, cap, cur, hv, hlo, hrest⟩
  · subst hv
    have hx : p = [] := List.eq_nil_of_length_eq_zero hn
    subst hx
    exact ⟨lo, 0, OwnRow.nil _ rfl, Nat.zero_le _, Nat.le_refl _, fun w2 hu => ⟨hu.os, hu.tape, hu.output, hu.size, fun k _ hk => hu.block k (Or.inr (Nat.zero_le _)) hk⟩, fun w2 hu k hk _ => hu.block k (Or.inr (Nat.zero_le _)) hk⟩
  · subst hv
    have hg1 := hhi g rfl
    have hg2 := (hl g rfl).2
    refine ⟨g, g + 1, ⟨⟨h1, Or.inr ⟨g, cap, cur, rfl, Nat.le_refl _, hrest⟩⟩, fun k hk => ?_⟩, hg2, hlo, fun w2 hu => ⟨hu.os, hu.tape, hu.output, hu.size, fun k hk hl => hu.block k (by omega) hl⟩, fun w2 hu k hk hne => hu.block k ?_ hk⟩
    · simp only [Value.ownBlock, Option.some.injEq] at hk
      omega
    · have : k ≠ g := fun e => hne (by rw [e]; rfl)
      omega
set_option maxHeartbeats 1000000 in
set_option maxRecDepth 100000 in
theorem c_laws_eqStringSS (X : List (List ByteArray)) (v1 v2 : Value) (w : World) (h1 : RdGS rowT w v1 X) (h2 : RdGS rowT w v2 X) :
    Calls Try.prog 23 #[v1, v2] w fun e w' => e = .returned (.bool true) ∧ Below w.heap.size w w' := by
  obtain ⟨a1, cap1, rfl, hl1, hc1⟩ := h1
  obtain ⟨a2, cap2, rfl, hl2, hc2⟩ := h2
  have HC1 := Lib.hid hc1
  have HC2 := Lib.hid hc2
  clear hc1 hc2
  go_enter Try.func23, Try.ntmps23
  go_wp2
  go_loopw [5] (fun i wr => ∃ k : Nat, k ≤ X.length ∧ i = .int .i64 k ∧ Below w.heap.size w wr) (fun i _ => X.length - (intOf i).toNat)
  case atStart => exact ⟨0, by omega, rfl, Below.refl _ _⟩
  case round =>
    obtain ⟨k, hk, rfl, hb⟩ := hrel
    by_cases hlt : k < X.length
    · obtain ⟨b1, o1, u1, rfl, hx1, hu1⟩ := HC1.out k hlt
      obtain ⟨b2, o2, u2, rfl, hx2, hu2⟩ := HC2.out k hlt
      have y1 := keepc hb hx1
      have y2 := keepc hb hx2
      have r1 : RdRow 1 rowT wr.drew u1 (X.getD k []) := (hu1.below hb : RdRow 1 rowT wr u1 (X.getD k []))
      have r2 : RdRow 1 rowT wr.drew u2 (X.getD k []) := (hu2.below hb : RdRow 1 rowT wr u2 (X.getD k []))
      have hin0 : (0 : Int) ≤ (k : Int) := Int.natCast_nonneg _
      have hin1 : (k : Int) < (X.length : Int) := by omega
      clear hx1 hx2 hu1 hu2
      generalize X.getD k [] = xs at *
      go_wp2_with fail
      go_region_held3 (fun w' => w'.cell? ⟨b1, o1 + k, none⟩ = some u1 ∧ w'.cell? ⟨b2, o2 + k, none⟩ = some u2)
        (go_keep)
        (first | ((go_at_call 14; refine (c_laws_eqStringS xs _ _ _ r1 r2).mono ?_; rintro e w2 ⟨rfl, hb2⟩; have hb2' := below_drew hb2; have z1 := keepc hb2' y1; have z2 := keepc hb2' y2)))
      go_wp2
      go_roundw
      case rel => exact ⟨k + 1, by omega, by go_num, by (repeat (first | (with_reducible assumption) | (with_reducible exact Below.refl _ _) | (with_reducible refine Below.setCell ?_ (by first | (simp; done) | (simp; omega)) _) | (with_reducible refine Below.al ?_ _) | (with_reducible refine Below.dr ?_) | (with_reducible refine Below.drN ?_ _) | (with_reducible refine Below.tr ?_ (by with_reducible assumption))))⟩
      case measure => simp [intOf]; omega
    · obtain rfl : k = X.length := by omega
      go_wp2
      go_ret
      exact ⟨rfl, hb⟩
set_option maxHeartbeats 2000000 in
set_option maxRecDepth 100000 in
theorem c_laws_markStringSS (lo hi : Nat) (X : List (List ByteArray)) (q : Nat) (v : Value) (w : World) (h : OwnSS lo hi w v X) (hq : 0 < q) (hq2 : q + sumR X < 4611686018427387904) :
    Calls Try.prog 26 #[v, .int .i64 q] w fun e w' => e = .returned (.int .i64 ((q + sumR X : Nat) : Int)) ∧ OwnSS lo w'.heap.size w' v (marksGT q X) ∧ Upd lo hi w w' := by
  have hrd := h.rd rowT_len
  obtain ⟨a1, cap1, rfl, hl1, _⟩ := hrd
  have HML := Lib.hid (fun k => mixR_len (markGT q X) X k)
  have HMG := Lib.hid (fun k i hi' => mixR_get (markGT q X) X k i hi')
  have HMS := Lib.hid (fun k => mixR_succ (markGT q X) X k)
  have HMA : Hid (mixR (markGT q X) X X.length = marksGT q X) := rfl
  have HSN := Lib.hid (fun k hk => sumR_snoc X k hk)
  have HSL := Lib.hid (fun k => sumR_le X k)
  have HMK : Hid (∀ i, markGT q X i = marksT (q + sumR (X.take i)) (X.getD i []).length) := fun _ => rfl
  go_enter Try.func26, Try.ntmps26
  go_wp2
  go_loopw [1, 5] (fun c i wr => ∃ k : Nat, k ≤ X.length ∧ i = .int .i64 k ∧ c = .int .i64 ((q + sumR (X.take k) : Nat) : Int) ∧ OwnSS lo hi wr (.slice a1 X.length cap1) (mixR (markGT q X) X k) ∧ Upd lo hi w wr) (fun _ i _ => X.length - (intOf i).toNat)
  case atStart => exact ⟨0, by omega, rfl, by simp [sumR], by rw [mixR_zero]; exact h, ⟨rfl, rfl, rfl, Nat.le_refl _, fun _ _ _ => rfl⟩⟩
  case round =>
    clear h
    obtain ⟨k, hk, rfl, rfl, hown, hu⟩ := hrel
    by_cases hlt : k < X.length
    · obtain ⟨g, n, cap, he, hn, -, -, -, -⟩ := hown.shape (fun e => by have := HML.out k; rw [e] at this; simp at this; omega)
      cases he
      obtain ⟨u, hc, hrow, hback⟩ := hown.line k (by rw [HML.out]; exact hlt)
      have hget := HMG.out k k hlt
      rw [if_neg (by omega)] at hget
      have hsn := HSN.out k hlt
      have hsl := HSL.out (k + 1)
      have HMk := Lib.hid (HMK.out k)
      rw [hget] at hrow
      obtain ⟨p, Hp⟩ : ∃ p, Hid (X.getD k [] = p) := ⟨_, rfl⟩
      rw [Hp.out] at hrow hsn HMk
      have HSk := Lib.hid (HMS.out k)
      rw [HMk.out] at HSk
      clear hn hget
      generalize hs0 : sumR (X.take k) = s0 at *
      generalize hs1 : sumR (X.take (k + 1)) = s1 at *
      have HS1 := Lib.hid hs1
      clear hs0 hs1
      obtain ⟨l2, h2, hrow2, hiw2, hsub⟩ := own_tight hrow
      go_wp2_with fail
      refine (c_laws_markStringS l2 h2 p (q + s0) _ _ hrow2 hiw2 (by omega) (by omega)).mono ?_; rintro e w2 ⟨rfl, ho2, hg2⟩
      have hd := hback w2 _ (by exact owns_base ho2.1 hsub.1) (hsub.2.2 _ hg2)
      rw [HSk.out] at hd
      have hu2 := hsub.2.1 _ hg2
      go_wp2
      go_roundw
      case rel => exact ⟨k + 1, by omega, by go_num, by rw [HS1.out, hsn]; congr 1; omega, hd, hu.trans hu2⟩
      case measure => simp [intOf]; omega
    · obtain rfl : k = X.length := by omega
      rw [HMA.out] at hown
      have HT : Hid (X.take X.length = X) := List.take_length
      rw [HT.out]
      go_wp2
      go_ret
      exact ⟨rfl, hown.tight, hu⟩
set_option maxHeartbeats 1000000 in
set_option maxRecDepth 100000 in
theorem c_laws_heldStringSS (X : List (List ByteArray)) (q : Nat) (v : Value) (w : World) (h : RdGS rowT w v (marksGT q X)) (hq : 0 < q) (hq2 : q + sumR X < 4611686018427387904) :
    Calls Try.prog 27 #[v, .int .i64 q] w fun e w' => e = .returned (.int .i64 ((q + sumR X : Nat) : Int)) ∧ Below w.heap.size w w' := by
  obtain ⟨a1, cap1, rfl, hl1, hc1⟩ := h
  have hml : (marksGT q X).length = X.length := mixR_len (markGT q X) X X.length
  rw [hml] at hl1 hc1 ⊢
  have HC := Lib.hid hc1
  have HMG := Lib.hid (fun i hi' => mixR_get (markGT q X) X X.length i hi')
  have HSN := Lib.hid (fun k hk => sumR_snoc X k hk)
  have HSL := Lib.hid (fun k => sumR_le X k)
  have HMK : Hid (∀ i, markGT q X i = marksT (q + sumR (X.take i)) (X.getD i []).length) := fun _ => rfl
  have HMA : Hid (marksGT q X = mixR (markGT q X) X X.length) := rfl
  clear hc1 hml
  go_enter Try.func27, Try.ntmps27
  go_wp2
  go_loopw [1, 5] (fun c i wr => ∃ k : Nat, k ≤ X.length ∧ i = .int .i64 k ∧ c = .int .i64 ((q + sumR (X.take k) : Nat) : Int) ∧ Below w.heap.size w wr) (fun _ i _ => X.length - (intOf i).toNat)
  case atStart => exact ⟨0, by omega, rfl, by simp [sumR], Below.refl _ _⟩
  case round =>
    obtain ⟨k, hk, rfl, rfl, hb⟩ := hrel
    by_cases hlt : k < X.length
    · obtain ⟨b1, o1, u, rfl, hx, hu⟩ := HC.out k hlt
      have hget := HMG.out k hlt
      rw [if_pos hlt, HMK.out] at hget
      rw [HMA.out, hget] at hu
      have hx' := keepc hb hx
      have hu' := hu.below hb
      have hsn := HSN.out k hlt
      have hsl := HSL.out (k + 1)
      obtain ⟨p, Hp⟩ : ∃ p, Hid ((X.getD k []).length = p) := ⟨_, rfl⟩
      rw [Hp.out] at hu' hsn
      clear hget hx hu
      generalize hs0 : sumR (X.take k) = s0 at *
      generalize hs1 : sumR (X.take (k + 1)) = s1 at *
      have HS1 := Lib.hid hs1
      clear hs0 hs1
      have hng : ¬ (((q + s0 + p : Nat) : Int) < 0) := by omega
      go_wp2_with fail
      refine (c_laws_heldStringS p (q + s0) _ _ hu' (by omega) (by omega)).mono ?_; rintro e w2 ⟨rfl, hb2⟩
      go_wp2
      go_roundw
      case rel => exact ⟨k + 1, by omega, by go_num, by rw [HS1.out, hsn]; congr 1; omega, hb.tr hb2⟩
      case measure => simp [intOf]; omega
    · obtain rfl : k = X.length := by omega
      have HT : Hid (X.take X.length = X) := List.take_length
      rw [HT.out]
      go_wp2
      go_ret
      exact ⟨rfl, hb⟩
end Go.Proofs.Ytddfdppoclnpcaa
