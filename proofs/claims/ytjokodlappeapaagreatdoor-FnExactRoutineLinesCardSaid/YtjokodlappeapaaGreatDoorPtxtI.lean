/- PtxtI, PtxtJ: laid one behind the other. -/
import Derived.Test.YtjokodlappeapaaGreatDoorHexI
import Derived.Test.YtjokodlappeapaaGreatDoorPat
import Derived.Test.YtjokodlappeapaaGreatDoorDoorF
section
set_option linter.unusedVariables false
namespace Go.Proofs.YtjokodlappeapaaGreatDoor
open Go.ChangeShapes Go.WideShapes Go.ChangeAt Go.RowKit
theorem valid_ok {xs : List Int} (h : validP xs = true) : okThrows xs = true := by
  unfold validP at h
  rw [Bool.and_eq_true] at h
  exact h.1
set_option maxHeartbeats 2000000 in
set_option maxRecDepth 100000 in
theorem c_impl_PatternText (xs : List Int) (v : Value) (w : World) (h : RdI w v xs) (hv : validP xs = true) :
    Calls Tryz.prog 53 #[v] w fun e w' => e = .returned (.string (hexT xs)) ∧ Below w.heap.size w w' := by
  have h' := h
  obtain ⟨a1, cap1, rfl, hl1, _⟩ := h'
  have hok := okThrows_iff.1 (valid_ok hv)
  have hx : ∀ x ∈ xs, 0 ≤ x ∧ x < 16 := fun x hx => by have := hok.1 x hx; omega
  have hl : xs.length < 1000000 := by omega
  have H := Lib.hid h
  have HX := Lib.hid hx
  clear hok hx h
  go_enter Tryz.func53, Tryz.ntmps53
  go_wp2_with fail
  refine (c_impl_ValidPattern xs _ _ H.out).mono ?_; rintro e w0 ⟨rfl, hb0⟩; rw [hv]
  have hl2 := hl
  go_wp2
  go_loopw [3, 12] (fun s i wr => ∃ k : Nat, k ≤ xs.length ∧ i = .int .i64 k ∧ OwnB w0.heap.size wr.heap.size wr s ((xs.take k).map hexC) ∧ Below w.heap.size w wr ∧ w0.heap.size ≤ wr.heap.size) (fun _ i _ => xs.length - (intOf i).toNat)
  case atStart => exact ⟨0, by omega, rfl, (OwnRow.made rfl rfl (Nat.le_refl _)).tight, by (repeat (first | (with_reducible assumption) | (with_reducible exact Below.refl _ _) | (with_reducible refine Below.setCell ?_ (by first | (simp; done) | (simp; omega)) _) | (with_reducible refine Below.al ?_ _) | (with_reducible refine Below.dr ?_) | (with_reducible refine Below.drN ?_ _) | (with_reducible refine Below.tr ?_ (by with_reducible assumption)))), by rw [World.size_alloc]; omega⟩
  case round =>
    obtain ⟨k, hk, rfl, ho, hb, hs0⟩ := hrel
    have hlo5 := World.ownsRow.lt ho.1
    by_cases hlt : k < xs.length
    · obtain ⟨_, _, e, _, hc⟩ := H.out.below hb
      cases e
      obtain ⟨b1, o1, rfl, x0⟩ := hc k hlt
      have hxk := HX.out xs[k] (List.getElem_mem hlt)
      have HT := Lib.hid (show (xs.take (k + 1)).map hexC = (xs.take k).map hexC ++ [hexC xs[k]] by rw [List.take_succ_eq_append_getElem hlt, List.map_append]; rfl)
      have hll : ((xs.take k).map hexC).length < 1000000000 := by rw [List.length_map, List.length_take]; omega
      rw [List.getD_eq_getElem?_getD, List.getElem?_eq_getElem hlt, Option.getD_some] at x0
      obtain ⟨n, Hn⟩ : ∃ n : Int, Hid (xs[k] = n) := ⟨xs[k], Lib.hid rfl⟩
      rw [Hn.out] at x0 hxk HT
      have hix := fun w' => digs_ix n hxk w'
      obtain ⟨S, HS⟩ : ∃ S, Hid ((xs.take k).map hexC = S) := ⟨_, Lib.hid rfl⟩
      rw [HS.out] at HT ho hll
      obtain ⟨c, HC⟩ : ∃ c, Hid (hexC n = c) := ⟨_, Lib.hid rfl⟩
      rw [HC.out] at HT hix
      clear hc
      go_wp2_with (first
        | (at_builtin; refine push_row_at (row := rowB) rfl _ _ _ _ rfl Tryz.underlying38 (.int .u8 0) 1 infoB rfl (by decide) (by decide) rowB_len w0.heap.size _ _ _ c #[.int .u8 c] _ rfl (rowB_one _) rfl rfl (by exact ho) hll (by omega) ?_; intro v' w5 hown5 hbel5 hs5 hg5 hat5))
      go_roundw
      case rel => exact ⟨k + 1, by omega, by go_num, by rw [HT.out]; exact hown5, hb.grown hg5 hb.size (fun q hq => Nat.le_trans hb0.size (hlo5 q hq).1), by omega⟩
      case measure => simp [intOf]; omega
    · obtain rfl : k = xs.length := by omega
      rw [List.take_length] at ho
      have hcv := conv_own ho
      go_wp2
      go_ret
      exact ⟨rfl, hb⟩
end Go.Proofs.YtjokodlappeapaaGreatDoor
end
section
set_option linter.unusedVariables false
namespace Go.Proofs.YtjokodlappeapaaGreatDoor
open Go.ChangeShapes Go.WideShapes Go.ChangeAt Go.RowKit
set_option linter.unusedSimpArgs false
theorem c_patI (xs : List Int) (D : ByteArray) (hD : Hid (hexT xs = D)) (v : Value) (w : World) (h : RdI w v xs) (hv : Hid (validP xs = true)) :
    Calls Tryz.prog 53 #[v] w fun e w' => e = .returned (.string D) ∧ Below w.heap.size w w' := by
  rw [← hD.out]; exact c_impl_PatternText xs v w h hv.out
theorem c_patS (xs : List Int) (D : ByteArray) (hD : Hid (hexT xs = D)) (v : Value) (w : World) (h : RdI w v xs) (hv : Hid (validP xs = true)) :
    Calls Tryz.prog 42 #[v] w fun e w' => e = .returned (.string D) ∧ Below w.heap.size w w' := by
  rw [← hD.out]
  have hok := okThrows_iff.1 (valid_ok hv.out)
  exact c_spec_l02Text xs v w h (fun x hx => by have := hok.1 x hx; omega)
end Go.Proofs.YtjokodlappeapaaGreatDoor
end
