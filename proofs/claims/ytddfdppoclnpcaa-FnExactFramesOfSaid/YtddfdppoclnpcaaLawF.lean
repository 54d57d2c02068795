/- Contracts of the laws' helpers on slices of frames: eq, mark, held. -/
import Derived.Test.YtddfdppoclnpcaaMemF
import Derived.Test.YtddfdppoclnpcaaLawD
namespace Go.Proofs.Ytddfdppoclnpcaa
open Go.ChangeShapes Go.WideShapes Go.ChangeAt Go.RowKit
set_option linter.unusedVariables false
set_option linter.unusedSimpArgs false
def markFr (q : Nat) (X : List Fr) (i : Nat) : Fr := (((q + sumF (X.take i) : Nat) : Int), marksD (((q + sumF (X.take i) : Nat) : Int) + 1) (X.getD i fZ).2.length)
def marksF (q : Nat) (X : List Fr) : List Fr := mixN fZ (markFr q X) X X.length
set_option maxHeartbeats 2000000 in
set_option maxRecDepth 100000 in
theorem c_laws_eqFrameS (X : List Fr) (v1 v2 : Value) (w : World) (h1 : RdF w v1 X) (h2 : RdF w v2 X) :
    Calls Try.prog 41 #[v1, v2] w fun e w' => e = .returned (.bool true) ∧ Below w.heap.size w w' := by
  obtain ⟨a1, cap1, rfl, hl1, hc1⟩ := h1
  obtain ⟨a2, cap2, rfl, hl2, hc2⟩ := h2
  have HC1 := Lib.hid hc1
  have HC2 := Lib.hid hc2
  clear hc1 hc2
  have hb0 : ((X.length : Int) != (X.length : Int)) = false := by simp
  go_enter Try.func41, Try.ntmps41
  go_wp2
  go_loopw [5] (fun i wr => ∃ k : Nat, k ≤ X.length ∧ i = .int .i64 k ∧ Below w.heap.size w wr) (fun i _ => X.length - (intOf i).toNat)
  case atStart => exact ⟨0, by omega, rfl, Below.refl _ _⟩
  case round =>
    obtain ⟨k, hk, rfl, hb⟩ := hrel
    by_cases hlt : k < X.length
    · obtain ⟨b1, o1, u1, rfl, ht1, hx1, hu1⟩ := HC1.out k hlt
      obtain ⟨b2, o2, u2, rfl, ht2, hx2, hu2⟩ := HC2.out k hlt
      have y1 := keepc hb hx1
      have y2 := keepc hb hx2
      have z1 := keepc hb ht1
      have z2 := keepc hb ht2
      have r1 : RdRow 5 rowD wr.drew u1 (X.getD k fZ).2 := (hu1.below hb : RdRow 5 rowD wr u1 (X.getD k fZ).2)
      have r2 : RdRow 5 rowD wr.drew u2 (X.getD k fZ).2 := (hu2.below hb : RdRow 5 rowD wr u2 (X.getD k fZ).2)
      have hin0 : (0 : Int) ≤ (k : Int) := Int.natCast_nonneg _
      have hin1 : (k : Int) < (X.length : Int) := by omega
      clear hx1 hx2 hu1 hu2 ht1 ht2
      generalize (X.getD k fZ).2 = xs at *
      generalize (X.getD k fZ).1 = t at *
      go_wp2_with fail
      go_region_held3 (fun w' => w'.cell? ⟨b1, o1 + k * 2, none⟩ = some (.int .i64 t) ∧ w'.cell? ⟨b1, o1 + k * 2 + 1, none⟩ = some u1 ∧ w'.cell? ⟨b2, o2 + k * 2, none⟩ = some (.int .i64 t) ∧ w'.cell? ⟨b2, o2 + k * 2 + 1, none⟩ = some u2)
        (go_keep)
        (first | ((go_at_call 36; refine (c_laws_eqFrame xs t _ _ _ r1 r2).mono ?_; rintro e w2 ⟨rfl, hb2⟩; have hb2' := below_drew hb2; have q1 := keepc hb2' y1; have q2 := keepc hb2' y2; have q3 := keepc hb2' z1; have q4 := keepc hb2' z2)))
      go_wp2
      go_roundw
      case rel => exact ⟨k + 1, by omega, by go_num, by (repeat (first | (with_reducible assumption) | (with_reducible exact Below.refl _ _) | (with_reducible refine Below.setCell ?_ (by first | (simp; done) | (simp; omega)) _) | (with_reducible refine Below.al ?_ _) | (with_reducible refine Below.dr ?_) | (with_reducible refine Below.drN ?_ _) | (with_reducible refine Below.tr ?_ (by with_reducible assumption))))⟩
      case measure => simp [intOf]; omega
    · obtain rfl : k = X.length := by omega
      go_wp2
      go_ret
      exact ⟨rfl, hb⟩
set_option maxHeartbeats 4000000 in
set_option maxRecDepth 100000 in
theorem c_laws_markFrameS (lo hi : Nat) (X : List Fr) (q : Nat) (v : Value) (w : World) (h : OwnF lo hi w v X) (hq2 : q + sumF X < 4611686018427387904) :
    Calls Try.prog 42 #[v, .int .i64 q] w fun e w' => e = .returned (.int .i64 ((q + sumF X : Nat) : Int)) ∧ OwnF lo w'.heap.size w' v (marksF q X) ∧ Upd lo hi w w' := by
  have hrd := h.rd
  obtain ⟨a1, cap1, rfl, hl1, _⟩ := hrd
  have HML := Lib.hid (fun k => mixN_len fZ (markFr q X) X k)
  have HMG := Lib.hid (fun k i hi' => mixN_get fZ (markFr q X) X k i hi')
  have HMS := Lib.hid (fun k => mixN_succ fZ (markFr q X) X k)
  have HMA : Hid (mixN fZ (markFr q X) X X.length = marksF q X) := rfl
  have HSN := Lib.hid (fun k hk => sumF_snoc X k hk)
  have HSL := Lib.hid (fun k => sumF_le X k)
  have HMK : Hid (∀ i, markFr q X i = (((q + sumF (X.take i) : Nat) : Int), marksD (((q + sumF (X.take i) : Nat) : Int) + 1) (X.getD i fZ).2.length)) := fun _ => rfl
  go_enter Try.func42, Try.ntmps42
  go_wp2
  go_loopw [1, 5] (fun c i wr => ∃ k : Nat, k ≤ X.length ∧ i = .int .i64 k ∧ c = .int .i64 ((q + sumF (X.take k) : Nat) : Int) ∧ OwnF lo hi wr (.slice a1 X.length cap1) (mixN fZ (markFr q X) X k) ∧ Upd lo hi w wr) (fun _ i _ => X.length - (intOf i).toNat)
  case atStart => exact ⟨0, by omega, rfl, by simp [sumF], by rw [mixN_zero]; exact h, ⟨rfl, rfl, rfl, Nat.le_refl _, fun _ _ _ => rfl⟩⟩
  case round =>
    clear h
    obtain ⟨k, hk, rfl, rfl, hown, hu⟩ := hrel
    by_cases hlt : k < X.length
    · obtain ⟨g, n, cap, he, hn, hgl, hgh, hgs⟩ := hown.shape (by rw [HML.out]; omega)
      cases he
      obtain ⟨u, old, hc0, hf0, hc, -, -, hrow, hug, hback⟩ := hown.line k (by rw [HML.out]; exact hlt)
      have hget := HMG.out k k hlt
      rw [if_neg (by omega)] at hget
      have hsn := HSN.out k hlt
      have hsl := HSL.out (k + 1)
      have HMk := Lib.hid (HMK.out k)
      rw [hget] at hrow
      obtain ⟨p, Hp⟩ : ∃ p, Hid ((X.getD k fZ).2 = p) := ⟨_, rfl⟩
      rw [Hp.out] at hrow hsn HMk
      have HSk := Lib.hid (HMS.out k)
      rw [HMk.out] at HSk
      clear hn hget
      generalize hs0 : sumF (X.take k) = s0 at *
      generalize hs1 : sumF (X.take (k + 1)) = s1 at *
      have HS1 := Lib.hid hs1
      clear hs0 hs1
      obtain ⟨Z, HZ⟩ : ∃ Z, Hid (((q + s0 : Nat) : Int) = Z) := ⟨_, rfl⟩
      have hZ : 0 ≤ Z ∧ Z + 1 + 5 * (p.length : Int) < 4611686018427387904 := by have := HZ.out; omega
      rw [HZ.out] at HMk HSk
      rw [HZ.out]
      have hin0 : (0 : Int) ≤ (k : Int) := Int.natCast_nonneg _
      have hin1 : (k : Int) < (X.length : Int) := by omega
      have hst : OwnD lo hi (wr.setCell ⟨g, k * 2, none⟩ (.int .i64 Z)) u p := ⟨owns_block hrow.1 fun j hj => heap_setCell_other wr ⟨g, k * 2, none⟩ j _ (fun e => hug (by rw [hj]; exact congrArg some e)), hrow.2⟩
      have hc1 : (wr.setCell ⟨g, k * 2, none⟩ (.int .i64 Z)).cell? ⟨g, k * 2 + 1, none⟩ = some u := by rw [World.cell?_setCell_other _ _ _ _ (fun e => by have h := congrArg Addr.off e; dsimp only at h; omega)]; exact hc
      have hus : Upd lo hi wr (wr.setCell ⟨g, k * 2, none⟩ (.int .i64 Z)) := ⟨rfl, rfl, rfl, by simp, fun j hj _ => heap_setCell_other wr ⟨g, k * 2, none⟩ j _ (fun e => by have e' : j = g := e; omega)⟩
      have hsz : (wr.setCell ⟨g, k * 2, none⟩ (.int .i64 Z)).heap.size = wr.heap.size := by simp
      obtain ⟨W2, hW2⟩ : ∃ W2, W2 = wr.setCell ⟨g, k * 2, none⟩ (.int .i64 Z) := ⟨_, rfl⟩
      have HBK : Hid (∀ w1 ys, w1.ownsRow lo 51 5 u ys.length (ys.flatMap rowD) → (∀ k', k' < W2.heap.size → some k' ≠ u.ownBlock → w1.heap[k']? = W2.heap[k']?) → OwnF lo hi w1 (.slice (some ⟨g, 0, none⟩) X.length cap1) ((mixN fZ (markFr q X) X k).set k (Z, ys))) := fun w1 ys h1 h2 => hback _ w1 ys h1 (by rw [← hW2]; intro k' hk'; exact h2 k' (by rw [hW2, hsz]; exact hk'))
      have HUS := Lib.hid hus
      rw [← hW2] at hst HUS
      obtain ⟨l2, h2, hrow2, hiw2, hlo2, hsub, hsame⟩ := own_tightR hst
      have HST := Lib.hid hrow2
      have HSUB := Lib.hid hsub
      have HSAME := Lib.hid hsame
      have HW2 := Lib.hid hW2
      clear hst hus hback hsz hW2 hrow2 hsub hsame hrow
      go_wp2_with fail
      rw [← HW2.out]
      refine (c_laws_markDotS l2 h2 p (Z + 1) _ _ HST.out (by omega) (by omega)).mono ?_; rintro e w2 ⟨rfl, ho2, hg2⟩
      have hd := HBK.out w2 (marksD (Z + 1) p.length) (by rw [marksD_length]; exact owns_base (by have h := ho2.1; rw [marksD_length] at h; exact h) hlo2) (fun k' hk' hne => HSAME.out w2 hg2 k' hk' hne)
      rw [HSk.out] at hd
      have hu2 : Upd lo hi W2 w2 := HSUB.out w2 hg2
      go_wp2
      go_roundw
      case rel => exact ⟨k + 1, by omega, by go_num, by rw [HS1.out, hsn]; congr 1; have := HZ.out; omega, hd, (hu.trans HUS.out).trans hu2⟩
      case measure => simp [intOf]; omega
    · obtain rfl : k = X.length := by omega
      rw [HMA.out] at hown
      have HT : Hid (X.take X.length = X) := List.take_length
      rw [HT.out]
      go_wp2
      go_ret
      exact ⟨rfl, hown.tight, hu⟩
set_option maxHeartbeats 2000000 in
set_option maxRecDepth 100000 in
theorem c_laws_heldFrameS (X : List Fr) (q : Nat) (v : Value) (w : World) (h : RdF w v (marksF q X)) (hq2 : q + sumF X < 4611686018427387904) :
    Calls Try.prog 43 #[v, .int .i64 q] w fun e w' => e = .returned (.int .i64 ((q + sumF X : Nat) : Int)) ∧ Below w.heap.size w w' := by
  obtain ⟨a1, cap1, rfl, hl1, hc1⟩ := h
  have hml : (marksF q X).length = X.length := mixN_len fZ (markFr q X) X X.length
  rw [hml] at hl1 hc1 ⊢
  have HC := Lib.hid hc1
  have HMG := Lib.hid (fun i hi' => mixN_get fZ (markFr q X) X X.length i hi')
  have HSN := Lib.hid (fun k hk => sumF_snoc X k hk)
  have HSL := Lib.hid (fun k => sumF_le X k)
  have HMK : Hid (∀ i, markFr q X i = (((q + sumF (X.take i) : Nat) : Int), marksD (((q + sumF (X.take i) : Nat) : Int) + 1) (X.getD i fZ).2.length)) := fun _ => rfl
  have HMA : Hid (marksF q X = mixN fZ (markFr q X) X X.length) := rfl
  clear hc1 hml
  go_enter Try.func43, Try.ntmps43
  go_wp2
  go_loopw [1, 5] (fun c i wr => ∃ k : Nat, k ≤ X.length ∧ i = .int .i64 k ∧ c = .int .i64 ((q + sumF (X.take k) : Nat) : Int) ∧ Below w.heap.size w wr) (fun _ i _ => X.length - (intOf i).toNat)
  case atStart => exact ⟨0, by omega, rfl, by simp [sumF], Below.refl _ _⟩
  case round =>
    obtain ⟨k, hk, rfl, rfl, hb⟩ := hrel
    by_cases hlt : k < X.length
    · obtain ⟨b1, o1, u, rfl, ht, hx, hu⟩ := HC.out k hlt
      have hget := HMG.out k hlt
      rw [if_pos hlt, HMK.out] at hget
      rw [HMA.out, hget] at hu ht
      have hx' := keepc hb hx
      have ht' := keepc hb ht
      have hu' := hu.below hb
      have hsn := HSN.out k hlt
      have hsl := HSL.out (k + 1)
      obtain ⟨p, Hp⟩ : ∃ p, Hid ((X.getD k fZ).2.length = p) := ⟨_, rfl⟩
      rw [Hp.out] at hu' hsn
      clear hget hx hu ht
      generalize hs0 : sumF (X.take k) = s0 at *
      generalize hs1 : sumF (X.take (k + 1)) = s1 at *
      have HS1 := Lib.hid hs1
      clear hs0 hs1
      obtain ⟨Z, HZ⟩ : ∃ Z, Hid (((q + s0 : Nat) : Int) = Z) := ⟨_, rfl⟩
      have hZ : 0 ≤ Z ∧ Z + 1 + 5 * (p : Int) < 4611686018427387904 := by have := HZ.out; omega
      rw [HZ.out] at ht' hu'
      rw [HZ.out]
      have te : (Z != Z) = false := by simp
      have hin0 : (0 : Int) ≤ (k : Int) := Int.natCast_nonneg _
      have hin1 : (k : Int) < (X.length : Int) := by omega
      have hng : ¬ ((Z + 1 + 5 * (p : Int)) < 0) := by omega
      go_wp2_with fail
      refine (c_laws_heldDotS p (Z + 1) _ _ hu' (by omega) (by omega)).mono ?_; rintro e w2 ⟨rfl, rfl⟩
      go_wp2
      go_roundw
      case rel => exact ⟨k + 1, by omega, by go_num, by rw [HS1.out, hsn]; congr 1; have := HZ.out; omega, hb⟩
      case measure => simp [intOf]; omega
    · obtain rfl : k = X.length := by omega
      have HT : Hid (X.take X.length = X) := List.take_length
      rw [HT.out]
      go_wp2
      go_ret
      exact ⟨rfl, hb⟩
end Go.Proofs.Ytddfdppoclnpcaa
