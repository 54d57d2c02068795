/- Contracts of the laws' own conversions. -/
import Derived.Test.YtgcmnpimkfmccaaLawI
import Derived.Test.YtgcmnpimkfmccaaArgs
import Derived.Test.YtgcmnpimkfmccaaKeep
namespace Go.Proofs.Ytgcmnpimkfmccaa
open Go.ChangeShapes Go.WideShapes Go.ChangeAt Go.RowKit
set_option linter.unusedVariables false
set_option maxHeartbeats 1000000 in
theorem c_laws_toInt64S (xs : List Int) (v : Value) (w : World) (h : RdI w v xs) (hn : xs.length ≤ 1048576) :
    Calls Try.prog 19 #[v] w fun e w' => e = .returned (.slice (some ⟨w.heap.size, 0, none⟩) xs.length xs.length) ∧ OwnI1 w.heap.size w' (.slice (some ⟨w.heap.size, 0, none⟩) xs.length xs.length) xs ∧ Below w.heap.size w w' := by
  obtain ⟨a1, cap1, rfl, hl1, hc1⟩ := h
  go_enter Try.func19, Try.ntmps19
  go_wp2_with (at_make; refine make_int rfl _ _ _ _ rfl Try.underlying28 infoI w.heap.size _ _ _ _ _ xs.length rfl rfl rfl rfl (by omega) (Nat.le_refl _) ?_; intro w1 hown hbel hsz)
  have hb1 := hbel w (Below.refl _ _)
  clear hbel hn hsz
  go_loopw [4] (fun i wr => ∃ k : Nat, k ≤ xs.length ∧ i = .int .i64 k ∧ OwnI1 w.heap.size wr (.slice (some ⟨w.heap.size, 0, none⟩) xs.length xs.length) (filled (List.replicate xs.length 0) xs k) ∧ Below w.heap.size w wr) (fun i _ => xs.length - (intOf i).toNat)
  case atStart => exact ⟨0, by omega, rfl, by rw [filled_zero]; exact hown, hb1⟩
  case round =>
    obtain ⟨k, hk, rfl, hown', hb⟩ := hrel
    have hfl := filled_length (List.replicate xs.length 0) xs k (by simp) (by simpa using hk)
    have hfl' : (filled (List.replicate xs.length 0) xs k).length = xs.length := by simpa using hfl
    by_cases hlt : k < xs.length
    · obtain ⟨b1, o1, rfl, hx⟩ := hc1 k hlt
      have hx' : wr.cell? ⟨b1, o1 + k, none⟩ = some (.int .i64 (xs.getD k 0)) := by rw [hb.cell (p := ⟨b1, o1 + k, none⟩) (World.block_lt_of_cell? w _ hx)]; exact hx
      have hst := OwnI.store (E := 2) (B := w.heap.size) (a := wr) (g := w.heap.size) (cap := xs.length) (xs := filled (List.replicate xs.length 0) xs k) (by rw [hfl']; exact hown') k (xs.getD k 0)
      rw [filled_succ _ _ _ (by simp) (by simpa using hlt), hfl'] at hst
      obtain ⟨⟨old, hck⟩, hfk⟩ := OwnI.at (E := 2) (B := w.heap.size) (a := wr) (g := w.heap.size) (xs := filled (List.replicate xs.length 0) xs k) hown' k (by omega)
      generalize xs.getD k 0 = x at hx' hst
      have HST := Lib.hid hst
      clear hfl hfl' hown' hown hx hc1 hst
      go_wp2
      go_roundw
      case rel => exact ⟨k + 1, by omega, by go_num, HST.out.1, hb.grown HST.out.2 (by have := hb.size; omega) (fun j hj => by simp only [Option.some.injEq] at hj; omega)⟩
      case measure => simp [intOf]; omega
    · obtain rfl : k = xs.length := by omega
      have H : Hid (filled (List.replicate xs.length 0) xs xs.length = xs) := by have := filled_all (List.replicate xs.length 0) xs (by simp); simp only [List.length_replicate] at this; exact this
      clear hfl hfl'
      go_wp2
      go_ret
      exact ⟨rfl, by have h := hown'; rw [H.out] at h; exact h, hb⟩
end Go.Proofs.Ytgcmnpimkfmccaa
