/- The law LinesX: what it rests on, part 30 of 46. -/
import Derived.Test.YtioemkdapoombaaGreatDoorQLinesX25
import Derived.Test.YtioemkdapoombaaGreatDoorQLinesX28
import Derived.Test.YtioemkdapoombaaGreatDoorQLinesX29
import Derived.Test.YtioemkdapoombaaGreatDoorCards
import Derived.Test.YtioemkdapoombaaGreatDoorTie
import Derived.LaidMore
import Derived.Stop.Joined
import Derived.Stop.LaidErr
import Derived.Deep.RegionHeld3
import Derived.Test.YtioemkdapoombaaGreatDoorRows
import Derived.ProofKit
import Derived.OpenShut
import Derived.ChangeOld
import Derived.Lib.SmallJoins
import Derived.Laws.ResultCell
import Derived.Deep.Slices
import Derived.Test.YtioemkdapoombaaGreatDoorQLinesX01
import Derived.Test.YtioemkdapoombaaGreatDoorQLinesX04
import Derived.Test.YtioemkdapoombaaGreatDoorQLinesX09
import Derived.Test.YtioemkdapoombaaGreatDoorQLinesX19
section
namespace Go.Proofs.YtioemkdapoombaaGreatDoor
open Go.RowKit
set_option linter.unusedVariables false
def dnK : Nat → Int → Int → Bool
  | 0, h, m => m == groundM m
  | k + 1, h, m => m == groundM m || (canB h m ((throwsL h m).headD 0) && dnK k h (nextM m ((throwsL h m).headD 0)))
def upP (m : Int) : Int := 2 * (m - 2 ^ Nat.log2 m.toNat) + 1
def upT (m : Int) : Int := (Nat.log2 m.toNat : Int) + 1
def upK : Nat → Int → Int → Bool
  | 0, h, m => m == groundM m
  | k + 1, h, m => m == groundM m || (canB h (upP m) (upT m) && (nextM (upP m) (upT m) == m) && decide (0 ≤ upP m) && decide (upP m < m) && upK k h (upP m))
theorem checkedK : ((List.range 10).all fun h => (List.range (2 ^ (h + 1))).all fun m => dnK 24 ((h : Int) + 1) (m : Int) && upK 24 ((h : Int) + 1) (m : Int)) = true := by decide +kernel
theorem okK {h m : Int} (hh : 1 ≤ h ∧ h ≤ 10) (hm : 0 ≤ m ∧ m < 2 ^ h.toNat) : dnK 24 h m = true ∧ upK 24 h m = true := by
  obtain ⟨a, ha⟩ : ∃ a : Nat, h = (a : Int) + 1 := ⟨(h - 1).toNat, by omega⟩
  obtain ⟨b, rfl⟩ := Int.eq_ofNat_of_zero_le hm.1
  subst ha
  have hb : b < 2 ^ (a + 1) := by
    have h1 : ((a : Int) + 1).toNat = a + 1 := by omega
    have h2 := hm.2
    rw [h1] at h2
    have h3 : ((b : Nat) : Int) < ((2 ^ (a + 1) : Nat) : Int) := by simpa using h2
    exact_mod_cast h3
  have h1 := checkedK
  rw [List.all_eq_true] at h1
  have h2 := h1 a (List.mem_range.2 (by omega))
  rw [List.all_eq_true] at h2
  have h3 := h2 b (List.mem_range.2 hb)
  rw [Bool.and_eq_true] at h3
  exact h3
theorem dn_walk {h : Int} (hh : 1 ≤ h ∧ h ≤ 10) : ∀ (k : Nat) (m : Int), 0 ≤ m ∧ m < 2 ^ h.toNat → dnK k h m = true → ∃ l, l ≤ k ∧ Walk (adjM h) l m (groundM m)
  | 0, m, hm, hk => ⟨0, Nat.le_refl _, beq_iff_eq.1 hk⟩
  | k + 1, m, hm, hk => by
    unfold dnK at hk
    rw [Bool.or_eq_true] at hk
    rcases hk with h1 | h1
    · exact ⟨0, Nat.zero_le _, beq_iff_eq.1 h1⟩
    · rw [Bool.and_eq_true] at h1
      obtain ⟨hc, hl⟩ := h1
      have htb := can_le hh.1 hc
      have hb := next_bd hh hm htb.2
      obtain ⟨l, hlk, hw⟩ := dn_walk hh k _ hb hl
      have hg : groundM (nextM m ((throwsL h m).headD 0)) = groundM m := by unfold groundM; rw [next_pop hh hm hc]
      rw [hg] at hw
      have h1 : Walk (adjM h) 1 m (nextM m ((throwsL h m).headD 0)) := ⟨m, rfl, (mem_adjM (by omega)).2 ⟨_, hc, htb, rfl⟩⟩
      exact ⟨1 + l, by omega, walk_trans h1 hw⟩
theorem up_walk {h : Int} (hh : 1 ≤ h ∧ h ≤ 10) : ∀ (k : Nat) (m : Int), 0 ≤ m ∧ m < 2 ^ h.toNat → upK k h m = true → ∃ l, l ≤ k ∧ Walk (adjM h) l (groundM m) m
  | 0, m, hm, hk => ⟨0, Nat.le_refl _, by have := (beq_iff_eq.1 (show (m == groundM m) = true from hk)).symm; exact this⟩
  | k + 1, m, hm, hk => by
    unfold upK at hk
    rw [Bool.or_eq_true] at hk
    rcases hk with h1 | h1
    · exact ⟨0, Nat.zero_le _, by have := (beq_iff_eq.1 h1).symm; exact this⟩
    · simp only [Bool.and_eq_true] at h1
      obtain ⟨⟨⟨⟨hc, he⟩, h0⟩, hl⟩, hu⟩ := h1
      have hl := of_decide_eq_true hl
      have h0 := of_decide_eq_true h0
      have he : nextM (upP m) (upT m) = m := by simpa using he
      have hp : 0 ≤ upP m ∧ upP m < 2 ^ h.toNat := ⟨h0, Int.lt_trans hl hm.2⟩
      obtain ⟨l, hlk, hw⟩ := up_walk hh k _ hp hu
      have hg : groundM (upP m) = groundM m := by
        have := next_pop hh hp hc
        unfold groundM; rw [← this, he]
      rw [hg] at hw
      exact ⟨l + 1, by omega, upP m, hw, (mem_adjM (by omega)).2 ⟨upT m, hc, can_le hh.1 hc, he⟩⟩
theorem short_few {n h a b : Int} (hh : 1 ≤ h ∧ h ≤ 10) (ha : a ∈ maskL n h) (hb : b ∈ maskL n h) : (shortL h a b).length ≤ 48 := by
  have h1 := mem_maskL.1 ha
  have h2 := mem_maskL.1 hb
  obtain ⟨l1, hl1, w1⟩ := dn_walk hh 24 a h1.1 (okK hh h1.1).1
  obtain ⟨l2, hl2, w2⟩ := up_walk hh 24 b h2.1 (okK hh h2.1).2
  have hg : groundM a = groundM b := by unfold groundM; rw [h1.2, h2.2]
  rw [hg] at w1
  obtain ⟨k, hk, hd⟩ := isDist_of_walk (walk_trans w1 w2)
  have he := dist_of hd
  rw [shortL_len]
  unfold farM
  rw [he]
  show ((k : Int)).toNat ≤ 48
  omega
theorem shortL_bdR {n h b : Int} (hh : 1 ≤ h ∧ h ≤ 10) (hb : b ∈ maskL n h) : ∀ (k : Nat) (a : Int), a ∈ maskL n h → (shortL h a b).length = k → ∀ x ∈ shortL h a b, 0 ≤ x ∧ x ≤ h := by
  intro k
  induction k with
  | zero => intro a _ hl x hx; rw [List.eq_nil_of_length_eq_zero hl] at hx; simp at hx
  | succ k ih =>
    intro a ha hl x hx
    by_cases he : a = b
    · subst he; rw [shortL_self] at hx; simp at hx
    · have h1 := shortL_step hh ha hb he
      have hpk := pick_some hh ha hb he
      have hpl := (mem_throwsL (by omega)).1 hpk.1
      rw [h1] at hl hx
      rcases List.mem_cons.1 hx with e | e
      · rw [e]; exact hpl.1
      · exact ih _ (next_mem hh ha hpl.2) (by simpa using hl) x e
theorem RoutOk.few {h : Int} {X : List Part2} (R : RoutOk h X) (k : Nat) : (brAt h X k).length ≤ 48 := short_few R.hh (R.sq k) (R.sq (k + 1))
theorem RoutOk.hex {h : Int} {X : List Part2} (R : RoutOk h X) (k : Nat) : ∀ x ∈ brAt h X k, 0 ≤ x ∧ x < 16 := fun x hx => by
  have := shortL_bdR R.hh (R.sq (k + 1)) _ _ (R.sq k) rfl x hx
  have := R.hh
  omega
def patS : ByteArray := ⟨#[112, 97, 116, 116, 101, 114, 110, 32]⟩
/-- the line of a part -/
def rtLine (X : List Part2) (k : Nat) : ByteArray := ((patS ++ hexT (patR X k)) ++ ⟨#[32]⟩) ++ decT (timR X k)
noncomputable def rlTo (h : Int) (X : List Part2) : Nat → List ByteArray
  | 0 => thrL (brAt h X 0)
  | k + 1 => (rlTo h X k ++ [rtLine X k]) ++ thrL (brAt h X (k + 1))
theorem thrL_few {xs : List Int} (h : xs.length ≤ 48) : (thrL xs).length ≤ 4 := by rw [thrL_len]; unfold thrN; omega
theorem RoutOk.lines {h : Int} {X : List Part2} (R : RoutOk h X) : ∀ k, (rlTo h X k).length ≤ 4 + 5 * k
  | 0 => by show (thrL (brAt h X 0)).length ≤ _; exact thrL_few (R.few 0)
  | k + 1 => by
    have h1 := R.lines k
    have h2 := thrL_few (R.few (k + 1))
    unfold rlTo
    rw [List.length_append, List.length_append, List.length_singleton]
    omega
noncomputable def rlL (h : Int) (X : List Part2) : List ByteArray := bif validR h X then doneR h (grR X) (rlTo h X X.length) else []
theorem RoutOk.done {h : Int} {X : List Part2} (R : RoutOk h X) : doneC (rlTo h X X.length) = 0 ∧ doneL h (grR X) (rlTo h X X.length) = doneR h (grR X) (rlTo h X X.length) := by
  have h1 := R.lines X.length
  have h2 := R.hl
  unfold doneC doneL
  rw [decide_eq_true (show (rlTo h X X.length).length ≤ 58 by omega)]
  exact ⟨rfl, rfl⟩
end Go.Proofs.YtioemkdapoombaaGreatDoor
end
section
section
set_option linter.unusedVariables false
namespace Go.Proofs.YtioemkdapoombaaGreatDoor
open Go.ChangeShapes Go.WideShapes Go.ChangeAt Go.RowKit
set_option maxRecDepth 100000 in
theorem tab_of {W : World} (h : laidMetH Tryz.prog [("math/bits.deBruijn32tab", Rows.laid_math_bits_deBruijn32tab), ("math/bits.deBruijn64tab", Rows.laid_math_bits_deBruijn64tab), ("internal/strconv.uint64pow10", Rows.laid_internal_strconv_uint64pow10)] W) : Tab W := by
  rw [MakeChecks.laidMetH_plain _ _ _ (by kernel_rfl)] at h
  have h3 : laidMet Tryz.prog [("internal/strconv.uint64pow10", Lib.tabData .u64 Lib.pow10Tab)] W := h.tail.tail
  exact Lib.tabIs_of_head gTab (by kernel_rfl) Tryz.underlying167 Tryz.underlying95 (by kernel_rfl) (by kernel_rfl) h3
section
variable {H : Type} {enc : TypeId × Value → H} {W : World} {base : Nat} {v : Value} {d : DataW H} {p : List MemPlace}
end
end Go.Proofs.YtioemkdapoombaaGreatDoor
end
section
set_option linter.unusedVariables false
namespace Go.Proofs.YtioemkdapoombaaGreatDoor
open Go.ChangeShapes Go.WideShapes Go.ChangeAt Go.RowKit
set_option linter.unusedSimpArgs false
end Go.Proofs.YtioemkdapoombaaGreatDoor
end
end
section
section
set_option linter.unusedVariables false
namespace Go.Proofs.YtioemkdapoombaaGreatDoor
open Go.ChangeShapes Go.WideShapes Go.ChangeAt Go.RowKit
theorem valid_ok {xs : List Int} (h : validP xs = true) : okThrows xs = true := by
  unfold validP at h
  rw [Bool.and_eq_true] at h
  exact h.1
end Go.Proofs.YtioemkdapoombaaGreatDoor
end
section
set_option linter.unusedVariables false
namespace Go.Proofs.YtioemkdapoombaaGreatDoor
open Go.ChangeShapes Go.WideShapes Go.ChangeAt Go.RowKit
set_option linter.unusedSimpArgs false
theorem c_patS (xs : List Int) (D : ByteArray) (hD : Hid (hexT xs = D)) (v : Value) (w : World) (h : RdI w v xs) (hv : Hid (validP xs = true)) :
    Calls Tryz.prog 51 #[v] w fun e w' => e = .returned (.string D) ∧ Below w.heap.size w w' := by
  rw [← hD.out]
  have hok := okThrows_iff.1 (valid_ok hv.out)
  exact c_spec_l02Text xs v w h (fun x hx => by have := hok.1 x hx; omega)
end Go.Proofs.YtioemkdapoombaaGreatDoor
end
end
