/- Contracts of the laws' helpers that mark slices of slices of int64. -/
import Derived.Test.YtddfdppoclnpcaaDoorLawG
import Derived.Test.YtddfdppoclnpcaaDoorMemK
namespace Go.Proofs.YtddfdppoclnpcaaDoor
open Go.ChangeShapes Go.WideShapes Go.ChangeAt Go.RowKit
set_option linter.unusedVariables false
set_option linter.unusedSimpArgs false
set_option maxHeartbeats 1000000 in
theorem c_laws_markInt64SS (lo hi : Nat) (X : List (List Int)) (q : Int) (v : Value) (w : World) (h : OwnGG lo hi w v X) (hq : 0 ≤ q) (hq2 : q + (sumLen X : Int) < 4611686018427387904) :
    Calls Tryd.prog 30 #[v, .int .i64 q] w fun e w' => e = .returned (.int .i64 (q + (sumLen X : Int))) ∧ OwnGG lo hi w' v (marksG q X) ∧ Upd lo hi w w' := by
  have hrd := h.rd
  obtain ⟨a1, cap1, rfl, hl1, _⟩ := hrd
  have HML := Lib.hid (fun k => mixG_len q X k)
  have HMG := Lib.hid (fun k i hi' => mixG_get q X k i hi')
  have HMS := Lib.hid (fun k => mixG_succ q X k)
  have HMA : Hid (mixG q X X.length = marksG q X) := rfl
  have HSN := Lib.hid (fun k hk => sumLen_snoc X k hk)
  have HSL := Lib.hid (fun k => sumLen_le X k)
  have HMK : Hid (∀ i, markG q X i = marks (q + sumLen (X.take i)) (X.getD i []).length) := fun _ => rfl
  go_enter Tryd.func30, Tryd.ntmps30
  go_wp2
  go_loopw [1, 5] (fun c i wr => ∃ k : Nat, k ≤ X.length ∧ i = .int .i64 k ∧ c = .int .i64 (q + (sumLen (X.take k) : Nat)) ∧ OwnGG lo hi wr (.slice a1 X.length cap1) (mixG q X k) ∧ Upd lo hi w wr) (fun _ i _ => X.length - (intOf i).toNat)
  case atStart => exact ⟨0, by omega, rfl, by simp [sumLen], by rw [mixG_zero]; exact h, ⟨rfl, rfl, rfl, Nat.le_refl _, fun _ _ _ => rfl⟩⟩
  case round =>
    clear h
    obtain ⟨k, hk, rfl, rfl, hown, hu⟩ := hrel
    by_cases hlt : k < X.length
    · obtain ⟨g, n, cap, he, hn, -, -, -, -⟩ := hown.shape (fun e => by have := HML.out k; rw [e] at this; simp at this; omega)
      cases he
      obtain ⟨u, hc, hrow, hback⟩ := hown.row k (by rw [HML.out]; exact hlt)
      have hget := HMG.out k k hlt
      rw [if_neg (by omega)] at hget
      have hsn := HSN.out k hlt
      have hsl := HSL.out (k + 1)
      have HMk := Lib.hid (HMK.out k)
      rw [hget] at hrow
      obtain ⟨p, Hp⟩ : ∃ p, Hid (X.getD k [] = p) := ⟨_, rfl⟩
      rw [Hp.out] at hrow hsn HMk
      have HSk := Lib.hid (HMS.out k)
      rw [HMk.out] at HSk
      clear hn hget
      generalize hs0 : sumLen (X.take k) = s0 at *
      generalize hs1 : sumLen (X.take (k + 1)) = s1 at *
      have HS1 := Lib.hid hs1
      clear hs0 hs1
      have hub : ∀ b, u.ownBlock = some b → lo ≤ b ∧ b < hi := fun b hb => ⟨(World.ownsRow.lt hrow.1 b hb).1, hrow.2 b hb⟩
      go_wp2_with fail
      refine (c_laws_markInt64S lo p _ _ _ hrow.1 (by omega) (by omega)).mono ?_; rintro e w2 ⟨rfl, ho2, hg2⟩
      have hd := hback w2 _ ho2 hg2
      rw [HSk.out] at hd
      have hu2 := hrow.upd_of hg2
      go_wp2
      go_roundw
      case rel => exact ⟨k + 1, by omega, by go_num, by rw [HS1.out, hsn]; congr 1; omega, hd, hu.trans hu2⟩
      case measure => simp [intOf]; omega
    · obtain rfl : k = X.length := by omega
      rw [HMA.out] at hown
      have HT : Hid (X.take X.length = X) := List.take_length
      rw [HT.out]
      go_wp2
      go_ret
      exact ⟨rfl, hown, hu⟩
end Go.Proofs.YtddfdppoclnpcaaDoor
