/- Contracts of the laws' helpers on slices of slices of int64. -/
import Derived.Test.YtddfdppoclnpcaaDoorLawC
import Derived.Test.YtddfdppoclnpcaaDoorArgsG
import Derived.Deep.RegionHeld3
namespace Go.Proofs.YtddfdppoclnpcaaDoor
open Go.ChangeShapes Go.WideShapes Go.ChangeAt Go.RowKit
set_option linter.unusedVariables false
set_option linter.unusedSimpArgs false
abbrev OwnGG (lo hi : Nat) (w : World) (v : Value) (X : List (List Int)) : Prop := OwnG 49 2 lo hi w v X
def szLeftG (left len : Int) : Int := if left - len < 0 then -1 else left - len
theorem infoG1 : (Tryd.prog.info? 49).map (fun i => (i.zero, i.size, i.bytes)) = some (some (.slice none 0 0), 1, 24) := by kernel_rfl
theorem c_laws_szInt64S' (left : Int) (a : Option Addr) (len cap : Nat) (w : World) (hl : (len : Int) ≤ 9223372036854775807) (h0 : 0 ≤ left ∧ left ≤ 1048576) :
    Calls Tryd.prog 44 #[.slice a len cap, .int .i64 left] w fun e w' => e = .returned (.int .i64 (szLeftG left len)) ∧ w = w' := by
  by_cases h : left - (len : Int) < 0
  · have HN : Hid (szLeftG left len = -1) := if_pos h
    go_enter Tryd.func44, Tryd.ntmps44
    go_wp2
    go_ret
    exact ⟨by rw [HN.out]; rfl, rfl⟩
  · have HN : Hid (szLeftG left len = left - len) := if_neg h
    go_enter Tryd.func44, Tryd.ntmps44
    go_wp2
    go_ret
    exact ⟨by rw [HN.out]; rfl, rfl⟩
set_option maxHeartbeats 1000000 in
theorem c_laws_szInt64SS (X : List (List Int)) (left : Int) (v : Value) (w : World) (h : RdG w v X) (h0 : 0 ≤ left ∧ left ≤ 1048576) :
    Calls Tryd.prog 24 #[v, .int .i64 left] w fun e w' => e = .returned (.int .i64 (szLeftG left ((X.length + sumLen X : Nat) : Int))) ∧ w = w' := by
  obtain ⟨a1, cap1, rfl, hl1, hc1⟩ := h
  have HC := Lib.hid hc1
  clear hc1
  by_cases hneg : left - (X.length : Int) < 0
  · have HN : Hid (szLeftG left ((X.length + sumLen X : Nat) : Int) = -1) := if_pos (by omega)
    go_enter Tryd.func24, Tryd.ntmps24
    go_wp2
    go_ret
    exact ⟨by rw [HN.out]; rfl, rfl⟩
  · have HSN := Lib.hid (fun k hk => sumLen_snoc X k hk)
    have HSL := Lib.hid (sumLen_le X)
    go_enter Tryd.func24, Tryd.ntmps24
    go_wp2
    go_loopw [1, 5] (fun l i wr => ∃ k : Nat, k ≤ X.length ∧ i = .int .i64 k ∧ l = .int .i64 (left - X.length - sumLen (X.take k)) ∧ 0 ≤ left - X.length - sumLen (X.take k) ∧ w = wr) (fun _ i _ => X.length - (intOf i).toNat)
    case atStart => exact ⟨0, by omega, rfl, by simp [sumLen], by simp [sumLen]; omega, by trivial⟩
    case round =>
      obtain ⟨k, hk, rfl, rfl, hp, rfl⟩ := hrel
      by_cases hlt : k < X.length
      · obtain ⟨b1, o1, u, rfl, hx, hu⟩ := HC.out k hlt
        have hsn := HSN.out k hlt
        have hsl := HSL.out (k + 1)
        obtain ⟨au, cu, rfl, hul, _⟩ := hu
        obtain ⟨n, Hn⟩ : ∃ n, Hid ((X.getD k []).length = n) := ⟨_, rfl⟩
        rw [Hn.out] at hx hsn hul
        generalize hs0 : sumLen (X.take k) = s0 at *
        generalize hs1 : sumLen (X.take (k + 1)) = s1 at *
        have HS1 := Lib.hid hs1
        clear hs0 hs1
        by_cases hn2 : left - (X.length : Int) - (s0 : Int) - (n : Int) < 0
        · have HZ : Hid (szLeftG (left - X.length - s0) n = -1) := if_pos hn2
          have HN : Hid (szLeftG left ((X.length + sumLen X : Nat) : Int) = -1) := if_pos (by omega)
          go_wp2_with (go_at_call 44; refine (c_laws_szInt64S' _ _ _ _ _ (by omega) (by omega)).mono ?_; rintro e w2 ⟨rfl, rfl⟩; rw [HZ.out])
          go_ret
          exact ⟨by rw [HN.out]; rfl, rfl⟩
        · have HZ : Hid (szLeftG (left - X.length - s0) n = left - X.length - s0 - n) := if_neg hn2
          go_wp2_with (go_at_call 44; refine (c_laws_szInt64S' _ _ _ _ _ (by omega) (by omega)).mono ?_; rintro e w2 ⟨rfl, rfl⟩; rw [HZ.out])
          go_roundw
          case rel => exact ⟨k + 1, by omega, by go_num, by rw [HS1.out, hsn]; congr 1; omega, by rw [HS1.out]; omega, by trivial⟩
          case measure => simp [intOf]; omega
      · obtain rfl : k = X.length := by omega
        rw [List.take_length] at hp
        rw [List.take_length]
        have HN : Hid (szLeftG left ((X.length + sumLen X : Nat) : Int) = left - X.length - sumLen X) := by
          unfold Hid szLeftG
          rw [if_neg (by omega)]
          omega
        go_wp2
        go_ret
        exact ⟨by rw [HN.out]; rfl, rfl⟩
set_option maxHeartbeats 1000000 in
theorem c_laws_toInt64SS (X : List (List Int)) (v : Value) (w : World) (h : RdG w v X) (hn : X.length + sumLen X ≤ 1048576) :
    Calls Tryd.prog 26 #[v] w fun e w' => ∃ u, e = .returned u ∧ OwnGG w.heap.size w'.heap.size w' u X ∧ Below w.heap.size w w' := by
  obtain ⟨a1, cap1, rfl, hl1, hc1⟩ := h
  have HC := Lib.hid hc1
  have HFS := Lib.hid (fun k => fillG_succ X k)
  have HFN := Lib.hid (fun k => fillG_len X k)
  have HFA := Lib.hid (fillG_all X)
  have HSA := Lib.hid (fun k hk => sumLen_at X k hk)
  clear hc1
  go_enter Tryd.func26, Tryd.ntmps26
  go_wp2_with (at_make; refine make_rows rfl _ _ _ _ 2 rfl Tryd.underlying62 infoG1 _ _ _ _ _ X.length rfl rfl rfl rfl (by omega) ?_; intro w1 hown hb1 hsz)
  rw [← fillG_zero] at hown
  go_loopw [4] (fun i wr => ∃ k : Nat, k ≤ X.length ∧ i = .int .i64 k ∧ OwnGG w.heap.size wr.heap.size wr (.slice (some ⟨w.heap.size, 0, none⟩) X.length X.length) (fillG X k) ∧ Below w.heap.size w wr) (fun i _ => X.length - (intOf i).toNat)
  case atStart => exact ⟨0, by omega, rfl, hown, hb1⟩
  case round =>
    clear hown hb1 hsz
    obtain ⟨k, hk, rfl, hown, hb⟩ := hrel
    have hbs := hb.size
    by_cases hlt : k < X.length
    · obtain ⟨b1, o1, u, rfl, hx, hu⟩ := HC.out k hlt
      have hx' := keepc hb hx
      have hlk := HSA.out k hlt
      have hown' := hown
      obtain ⟨u0, hu0, huf, hur, hug, hback⟩ := hown'.get k (by rw [HFN.out k]; exact hlt)
      have HS := Lib.hid (HFS.out k)
      have huu := hu.below hb
      clear hx hu
      obtain ⟨xs, Hxs⟩ : ∃ xs, Hid (X.getD k [] = xs) := ⟨_, rfl⟩
      rw [Hxs.out] at huu hlk HS
      go_wp2_with fail
      refine (c_laws_toInt64S xs _ _ huu (by omega)).mono ?_; rintro e w2 ⟨rfl, ho2, hb2⟩
      have hd := hback w2 _ _ (ho2.base hbs) (grownBy_of_below _ hb2) (Or.inr ⟨wr.heap.size, rfl, Nat.le_refl _⟩) (Nat.le_refl _)
      rw [HS.out] at hd
      have g0 := keepc hb2 hu0
      have gf := frozenc hb2 hu0 huf
      go_wp2
      go_roundw
      case rel => exact ⟨k + 1, by omega, by go_num, hd.tight, (hb.tr hb2).setCell (Nat.le_refl _) _⟩
      case measure => simp [intOf]; omega
    · obtain rfl : k = X.length := by omega
      rw [HFA.out] at hown
      go_wp2
      go_ret
      exact ⟨_, rfl, hown, hb⟩
theorem eq_self (xs : List Int) (v1 v2 : Value) (w : World) (h1 : RdI w v1 xs) (h2 : RdI w v2 xs) :
    Calls Tryd.prog 52 #[v1, v2] w fun e w' => e = .returned (.bool true) ∧ Below w.heap.size w w' := by
  refine (c_laws_eqInt64S xs xs v1 v2 w h1 h2).mono ?_
  rintro e w2 ⟨rfl, hb⟩
  exact ⟨by simp, hb⟩
set_option maxHeartbeats 1000000 in
set_option maxRecDepth 100000 in
theorem c_laws_eqInt64SS (X : List (List Int)) (v1 v2 : Value) (w : World) (h1 : RdG w v1 X) (h2 : RdG w v2 X) :
    Calls Tryd.prog 29 #[v1, v2] w fun e w' => e = .returned (.bool true) ∧ Below w.heap.size w w' := by
  obtain ⟨a1, cap1, rfl, hl1, hc1⟩ := h1
  obtain ⟨a2, cap2, rfl, hl2, hc2⟩ := h2
  have HC1 := Lib.hid hc1
  have HC2 := Lib.hid hc2
  clear hc1 hc2
  go_enter Tryd.func29, Tryd.ntmps29
  go_wp2
  go_loopw [5] (fun i wr => ∃ k : Nat, k ≤ X.length ∧ i = .int .i64 k ∧ Below w.heap.size w wr) (fun i _ => X.length - (intOf i).toNat)
  case atStart => exact ⟨0, by omega, rfl, Below.refl _ _⟩
  case round =>
    obtain ⟨k, hk, rfl, hb⟩ := hrel
    by_cases hlt : k < X.length
    · obtain ⟨b1, o1, u1, rfl, hx1, hu1⟩ := HC1.out k hlt
      obtain ⟨b2, o2, u2, rfl, hx2, hu2⟩ := HC2.out k hlt
      have y1 := keepc hb hx1
      have y2 := keepc hb hx2
      have r1 : RdI wr.drew u1 (X.getD k []) := (hu1.below hb : RdI wr u1 (X.getD k []))
      have r2 : RdI wr.drew u2 (X.getD k []) := (hu2.below hb : RdI wr u2 (X.getD k []))
      have hin0 : (0 : Int) ≤ (k : Int) := Int.natCast_nonneg _
      have hin1 : (k : Int) < (X.length : Int) := by omega
      clear hx1 hx2 hu1 hu2
      generalize X.getD k [] = xs at *
      go_wp2_with fail
      go_region_held3 (fun w' => w'.cell? ⟨b1, o1 + k, none⟩ = some u1 ∧ w'.cell? ⟨b2, o2 + k, none⟩ = some u2)
        (go_keep)
        (first | ((go_at_call 52; refine (eq_self xs _ _ _ r1 r2).mono ?_; rintro e w2 ⟨rfl, hb2⟩; have hb2' := below_drew hb2; have z1 := keepc hb2' y1; have z2 := keepc hb2' y2)))
      go_wp2
      go_roundw
      case rel => exact ⟨k + 1, by omega, by go_num, by (repeat (first | (with_reducible assumption) | (with_reducible exact Below.refl _ _) | (with_reducible refine Below.setCell ?_ (by first | (simp; done) | (simp; omega)) _) | (with_reducible refine Below.al ?_ _) | (with_reducible refine Below.dr ?_) | (with_reducible refine Below.drN ?_ _) | (with_reducible refine Below.tr ?_ (by with_reducible assumption))))⟩
      case measure => simp [intOf]; omega
    · obtain rfl : k = X.length := by omega
      go_wp2
      go_ret
      exact ⟨rfl, hb⟩
end Go.Proofs.YtddfdppoclnpcaaDoor
