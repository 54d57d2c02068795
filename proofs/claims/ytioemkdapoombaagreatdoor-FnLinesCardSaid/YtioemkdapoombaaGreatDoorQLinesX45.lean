/- The law LinesX: what it rests on, part 45 of 46. -/
import Derived.Test.YtioemkdapoombaaGreatDoorQLinesX37
import Derived.Test.YtioemkdapoombaaGreatDoorQLinesX44
import Derived.Deep.RegionHeld3
import Derived.Test.YtioemkdapoombaaGreatDoorQLinesX04
import Derived.Test.YtioemkdapoombaaGreatDoorQLinesX06
import Derived.Test.YtioemkdapoombaaGreatDoorQLinesX09
import Derived.Test.YtioemkdapoombaaGreatDoorQLinesX12
import Derived.Test.YtioemkdapoombaaGreatDoorQLinesX19
section
namespace Go.Proofs.YtioemkdapoombaaGreatDoor
def inF (k : Int) : Prop := 0 ≤ k ∧ k ≤ 6
theorem i0 : inF 0 := ⟨by decide, by decide⟩
theorem i1 : inF 1 := ⟨by decide, by decide⟩
theorem i2 : inF 2 := ⟨by decide, by decide⟩
theorem i3 : inF 3 := ⟨by decide, by decide⟩
theorem i4 : inF 4 := ⟨by decide, by decide⟩
theorem i5 : inF 5 := ⟨by decide, by decide⟩
theorem i6 : inF 6 := ⟨by decide, by decide⟩
theorem makeF_rng (R : Rc) (p : List Int) : inF (makeF R p).1 := by
  unfold makeF
  cases runOk R.h R.m p
  · first | exact i0 | exact i1 | exact i2 | exact i3 | exact i4 | exact i5 | exact i6
  · first | exact i0 | exact i1 | exact i2 | exact i3 | exact i4 | exact i5 | exact i6
theorem patF_rng (R : Rc) (a b : ByteArray) : inF (patF R a b).1 := by
  unfold patF
  cases okDig a && (numOk b && inB (numN b) 1 20)
  · first | exact i0 | exact i1 | exact i2 | exact i3 | exact i4 | exact i5 | exact i6
  · cases validP (digsTo a a.size)
    · first | exact i0 | exact i1 | exact i2 | exact i3 | exact i4 | exact i5 | exact i6
    · exact makeF_rng _ _
theorem checkF_rng (R : Rc) (b : ByteArray) : inF (checkF R b).1 := by
  unfold checkF
  cases rsB b
  · first | exact i0 | exact i1 | exact i2 | exact i3 | exact i4 | exact i5 | exact i6
  · cases decide ((b.size : Int) = R.h) && decide (rsM b b.size = R.m)
    · first | exact i0 | exact i1 | exact i2 | exact i3 | exact i4 | exact i5 | exact i6
    · first | exact i0 | exact i1 | exact i2 | exact i3 | exact i4 | exact i5 | exact i6
theorem lineW_rng (R : Rc) (ws : List ByteArray) : inF (lineW R ws).1 := by
  rcases ws with _ | ⟨a, _ | ⟨b, _ | ⟨c, _ | ⟨d, ws⟩⟩⟩⟩
  · first | exact i0 | exact i1 | exact i2 | exact i3 | exact i4 | exact i5 | exact i6
  · first | exact i0 | exact i1 | exact i2 | exact i3 | exact i4 | exact i5 | exact i6
  · show inF (bif bl a == thrW then (bif okDig b then makeF R (digsTo b b.size) else (2, R)) else (bif bl a == chkW then checkF R b else (2, R))).1
    cases bl a == thrW
    · cases bl a == chkW
      · first | exact i0 | exact i1 | exact i2 | exact i3 | exact i4 | exact i5 | exact i6
      · exact checkF_rng _ _
    · cases okDig b
      · first | exact i0 | exact i1 | exact i2 | exact i3 | exact i4 | exact i5 | exact i6
      · exact makeF_rng _ _
  · show inF (bif bl a == patT then patF R b c else (2, R)).1
    cases bl a == patT
    · first | exact i0 | exact i1 | exact i2 | exact i3 | exact i4 | exact i5 | exact i6
    · exact patF_rng _ _ _
  · first | exact i0 | exact i1 | exact i2 | exact i3 | exact i4 | exact i5 | exact i6
theorem lineF_rng (R : Rc) (s : ByteArray) : inF (lineF R s).1 := by
  unfold lineF
  cases R.e
  · cases s.toList == [101, 110, 100]
    · exact lineW_rng _ _
    · first | exact i0 | exact i1 | exact i2 | exact i3 | exact i4 | exact i5 | exact i6
  · first | exact i0 | exact i1 | exact i2 | exact i3 | exact i4 | exact i5 | exact i6
theorem runL_rng : ∀ (ls : List ByteArray) (R : Rc) (i : Int), inF (runL R ls i).2.1
  | [], R, i => by
    unfold runL
    cases R.e
    · first | exact i0 | exact i1 | exact i2 | exact i3 | exact i4 | exact i5 | exact i6
    · first | exact i0 | exact i1 | exact i2 | exact i3 | exact i4 | exact i5 | exact i6
  | s :: ls, R, i => by
    rw [show runL R (s :: ls) i = bif (lineF R s).1 == 0 then runL (lineF R s).2 ls (i + 1) else (i, (lineF R s).1, R) from rfl]
    cases (lineF R s).1 == 0
    · exact lineF_rng R s
    · exact runL_rng ls _ _
theorem runF_rng (X : List ByteArray) : inF (runF X).2.1 := by
  cases X with
  | nil => first | exact i0 | exact i1 | exact i2 | exact i3 | exact i4 | exact i5 | exact i6
  | cons s ls =>
    cases hs : startF s with
    | none => rw [runF_none hs]; first | exact i0 | exact i1 | exact i2 | exact i3 | exact i4 | exact i5 | exact i6
    | some hm =>
      obtain ⟨a, m⟩ := hm
      rw [runF_some hs]
      exact runL_rng ls _ _
theorem ckK_rng (X : List ByteArray) : inF (ckK X) := by
  unfold ckK
  cases decide (60 < X.length)
  · exact runF_rng X
  · first | exact i0 | exact i1 | exact i2 | exact i3 | exact i4 | exact i5 | exact i6
theorem step_tl {k : Int} (h : inF k) : ((stepName k).toList == []) = false := by
  apply tl_some
  obtain ⟨h0, h6⟩ := h
  have hc : k = 0 ∨ k = 1 ∨ k = 2 ∨ k = 3 ∨ k = 4 ∨ k = 5 ∨ k = 6 := by omega
  rcases hc with rfl | rfl | rfl | rfl | rfl | rfl | rfl <;> decide
end Go.Proofs.YtioemkdapoombaaGreatDoor
end
section
section
namespace Go.Proofs.YtioemkdapoombaaGreatDoor
open Go.ChangeShapes Go.WideShapes Go.ChangeAt Go.RowKit
set_option linter.unusedSimpArgs false
set_option linter.unusedVariables false
theorem c_laws_f6big (a : Option Addr) (n c : Nat) (w : World) (h : n ≤ 9223372036854775807) :
    Calls Tryz.prog 5 #[.slice a n c] w fun e w' => e = .returned (.bool (decide ((n : Int) > 4096))) ∧ w = w' := by
  go_enter Tryz.func5, Tryz.ntmps5
  go_wp2
  go_ret
  exact ⟨rfl, rfl⟩
set_option maxRecDepth 100000 in
theorem c_laws_f6ints (xs : List Int) (v1 v2 : Value) (w : World) (h1 : RdI w v1 xs) (h2 : RdI w v2 xs) :
    Calls Tryz.prog 15 #[v1, v2] w fun e w' => e = .returned (.bool true) ∧ Below w.heap.size w w' := by
  have H1 := Lib.hid h1
  have H2 := Lib.hid h2
  obtain ⟨a1, c1, rfl, hl1, -⟩ := h1
  obtain ⟨a2, c2, rfl, -, -⟩ := h2
  go_enter Tryz.func15, Tryz.ntmps15
  go_wp2
  go_loopw [5] (fun i wr => ∃ k : Nat, k ≤ xs.length ∧ i = .int .i64 k ∧ Below w.heap.size w wr) (fun i _ => xs.length - (intOf i).toNat)
  case atStart => exact ⟨0, by omega, rfl, Below.refl _ _⟩
  case round =>
    obtain ⟨k, hk, rfl, hb⟩ := hrel
    obtain ⟨wo, rfl⟩ : ∃ wo : World, wo = wr := ⟨_, rfl⟩
    by_cases hlt : k < xs.length
    · obtain ⟨a, c, he, -, hc⟩ := H1.out.below hb
      cases he
      obtain ⟨b1, o1, rfl, x1⟩ := hc k hlt
      obtain ⟨a, c, he, -, hc2⟩ := H2.out.below hb
      cases he
      obtain ⟨b2, o2, rfl, x2⟩ := hc2 k hlt
      generalize xs.getD k 0 = x at x1 x2
      have hin0 : (0 : Int) ≤ (k : Int) := Int.natCast_nonneg _
      have hin1 : (k : Int) < (xs.length : Int) := by omega
      have tx : (x != x) = false := by simp
      clear hc hc2
      go_wp2_with fail
      go_quiet (fail)
      go_wp2_with fail
      go_roundw
      case rel => exact ⟨k + 1, by omega, by go_num, hb.drN _⟩
      case measure => simp [intOf]; omega
    · go_wp2
      go_ret
      exact ⟨rfl, hb⟩
end Go.Proofs.YtioemkdapoombaaGreatDoor
end
section
namespace Go.Proofs.YtioemkdapoombaaGreatDoor
open Go.ChangeShapes Go.WideShapes Go.ChangeAt Go.RowKit
set_option linter.unusedSimpArgs false
set_option linter.unusedVariables false
set_option maxRecDepth 100000 in
theorem c_laws_f6texts (xs : List ByteArray) (v1 v2 : Value) (w : World) (h1 : RdRow 1 rowT w v1 xs) (h2 : RdRow 1 rowT w v2 xs) :
    Calls Tryz.prog 12 #[v1, v2] w fun e w' => e = .returned (.bool true) ∧ Below w.heap.size w w' := by
  have H1 := Lib.hid h1
  have H2 := Lib.hid h2
  obtain ⟨a1, c1, rfl, hl1, -⟩ := h1
  obtain ⟨a2, c2, rfl, -, -⟩ := h2
  go_enter Tryz.func12, Tryz.ntmps12
  go_wp2
  go_loopw [5] (fun i wr => ∃ k : Nat, k ≤ xs.length ∧ i = .int .i64 k ∧ Below w.heap.size w wr) (fun i _ => xs.length - (intOf i).toNat)
  case atStart => exact ⟨0, by omega, rfl, Below.refl _ _⟩
  case round =>
    obtain ⟨k, hk, rfl, hb⟩ := hrel
    obtain ⟨wo, rfl⟩ : ∃ wo : World, wo = wr := ⟨_, rfl⟩
    by_cases hlt : k < xs.length
    · obtain ⟨b1, o1, rfl, x1⟩ := rdT_at (H1.out.below hb) k hlt
      obtain ⟨b2, o2, rfl, x2⟩ := rdT_at (H2.out.below hb) k hlt
      generalize xs[k] = x at x1 x2
      have hin0 : (0 : Int) ≤ (k : Int) := Int.natCast_nonneg _
      have hin1 : (k : Int) < (xs.length : Int) := by omega
      go_wp2_with fail
      go_quiet (fail)
      go_wp2_with fail
      go_roundw
      case rel => exact ⟨k + 1, by omega, by go_num, hb.drN _⟩
      case measure => simp [intOf]; omega
    · go_wp2
      go_ret
      exact ⟨rfl, hb⟩
end Go.Proofs.YtioemkdapoombaaGreatDoor
end
end
