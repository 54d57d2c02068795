/- Contracts of LoopOf, the program's and the reference's. -/
import Derived.Test.YtjokodlappeapaaGreatDoorEntry
import Derived.Test.YtjokodlappeapaaGreatDoorMemR
namespace Go.Proofs.YtjokodlappeapaaGreatDoor
open Go.ChangeShapes Go.WideShapes Go.ChangeAt Go.RowKit
set_option linter.unusedVariables false
set_option linter.unusedSimpArgs false
theorem mxF_le {p : List Int} {h : Int} (hh : 0 ≤ h) (hp : ∀ x ∈ p, x ≤ h) : ¬ mxF 0 p > h := by
  rcases (mxF_ge 0 p).2.2 with h1 | h1
  · omega
  · have := hp _ h1; omega
theorem brC_swap {a b : List Int} {h : Int} (hc : brC a b h = 0) : brC b a h = 0 := by
  obtain ⟨⟨hva, hvb⟩, hh, ⟨hpa, hpb⟩, he⟩ := brC_ok hc
  unfold brC fitB
  rw [hva, hvb, inB_iff.2 hh, he]
  have h1 := mxF_le (by omega) hpa
  have h2 := mxF_le (by omega) hpb
  simp [h1, h2]
noncomputable def loopL (a b : List Int) (h : Int) : List Int := a ++ bridgeL a b h ++ b ++ bridgeL b a h
noncomputable def loopC (a b : List Int) (h : Int) : Int := if brC a b h = 0 then (if (loopL a b h).length > 12 then 5 else 0) else brC a b h
noncomputable def loopX (a b : List Int) (h : Int) : List Int := if brC a b h = 0 then (if (loopL a b h).length > 12 then [] else loopL a b h) else []
theorem loopX_len (a b : List Int) (h : Int) : (loopX a b h).length ≤ 1000000 := by
  unfold loopX
  split
  · split
    · simp
    · omega
  · simp
theorem c_spec_l00Own (xs : List Int) (v : Value) (w : World) (hr : RdI w v xs) (hl : xs.length ≤ 1000000) :
    Calls Tryz.prog 109 #[v] w fun e w' => ∃ u, e = .returned u ∧ OwnI1 w.heap.size w' u xs ∧ Below w.heap.size w w' := by
  have hr' := hr.below ((Below.refl _ _).al (Obj.cells #[] 2))
  have ho : OwnI1 w.heap.size (w.alloc (Obj.cells #[] 2)) (.slice (some ⟨w.heap.size, 0, none⟩) 0 0) [] := OwnI.made rfl rfl (Nat.le_refl _)
  have hb0 : Below w.heap.size w (w.alloc (Obj.cells #[] 2)) := (Below.refl _ _).al _
  go_enter Tryz.func109, Tryz.ntmps109
  go_wp2_with (at_builtin; refine push_ints rfl _ _ _ _ rfl Tryz.underlying42 infoI w.heap.size _ _ [] xs _ rfl rfl (by exact ho) ⟨_, _, _, rfl⟩ (by exact hr') (by simp only [List.length_nil]; omega) (by simp) ?_; intro v2 w2 ho2 hg2 hat2 hs2)
  go_ret
  exact ⟨_, rfl, by simpa using ho2, hb0.grown hg2 (by simp) (fun k hk => (World.ownsRow.lt ho k hk).1)⟩
end Go.Proofs.YtjokodlappeapaaGreatDoor
