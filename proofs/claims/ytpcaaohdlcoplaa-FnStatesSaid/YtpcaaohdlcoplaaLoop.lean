/- Contracts of LoopOf, the program's and the reference's. -/
import Derived.Test.YtpcaaohdlcoplaaEntry
import Derived.Test.YtpcaaohdlcoplaaMemR
namespace Go.Proofs.Ytpcaaohdlcoplaa
open Go.ChangeShapes Go.WideShapes Go.ChangeAt Go.RowKit
set_option linter.unusedVariables false
set_option linter.unusedSimpArgs false
theorem mxF_le {p : List Int} {h : Int} (hh : 0 ≤ h) (hp : ∀ x ∈ p, x ≤ h) : ¬ mxF 0 p > h := by
  rcases (mxF_ge 0 p).2.2 with h1 | h1
  · omega
  · have := hp _ h1; omega
theorem brC_swap {a b : List Int} {h : Int} (hc : brC a b h = 0) : brC b a h = 0 := by
  obtain ⟨⟨hva, hvb⟩, hh, ⟨hpa, hpb⟩, he⟩ := brC_ok hc
  unfold brC fitB
  rw [hva, hvb, inB_iff.2 hh, he]
  have h1 := mxF_le (by omega) hpa
  have h2 := mxF_le (by omega) hpb
  simp [h1, h2]
noncomputable def loopL (a b : List Int) (h : Int) : List Int := a ++ bridgeL a b h ++ b ++ bridgeL b a h
noncomputable def loopC (a b : List Int) (h : Int) : Int := if brC a b h = 0 then (if (loopL a b h).length > 12 then 5 else 0) else brC a b h
noncomputable def loopX (a b : List Int) (h : Int) : List Int := if brC a b h = 0 then (if (loopL a b h).length > 12 then [] else loopL a b h) else []
theorem loopX_len (a b : List Int) (h : Int) : (loopX a b h).length ≤ 1000000 := by
  unfold loopX
  split
  · split
    · simp
    · omega
  · simp
theorem c_impl_copyNumbers (xs : List Int) (v : Value) (w : World) (hr : RdI w v xs) (hl : xs.length ≤ 1000000) :
    Calls Try.prog 73 #[v] w fun e w' => ∃ u, e = .returned u ∧ OwnI1 w.heap.size w' u xs ∧ Below w.heap.size w w' := by
  have hr' := hr.below ((Below.refl _ _).al (Obj.cells #[] 2))
  have ho : OwnI1 w.heap.size (w.alloc (Obj.cells #[] 2)) (.slice (some ⟨w.heap.size, 0, none⟩) 0 0) [] := OwnI.made rfl rfl (Nat.le_refl _)
  have hb0 : Below w.heap.size w (w.alloc (Obj.cells #[] 2)) := (Below.refl _ _).al _
  go_enter Try.func73, Try.ntmps73
  go_wp2_with (at_builtin; refine push_ints rfl _ _ _ _ rfl Try.underlying24 infoI w.heap.size _ _ [] xs _ rfl rfl (by exact ho) ⟨_, _, _, rfl⟩ (by exact hr') (by simp only [List.length_nil]; omega) (by simp) ?_; intro v2 w2 ho2 hg2 hat2 hs2)
  go_ret
  exact ⟨_, rfl, by simpa using ho2, hb0.grown hg2 (by simp) (fun k hk => (World.ownsRow.lt ho k hk).1)⟩
set_option maxHeartbeats 2000000 in
set_option maxRecDepth 100000 in
theorem c_impl_LoopOf (a b : List Int) (h : Int) (v1 v2 : Value) (w : World) (hr1 : RdI w v1 a) (hr2 : RdI w v2 b) :
    Calls Try.prog 23 #[v1, v2, .int .i64 h] w fun e w' => ∃ u, e = .returned (.tuple #[u, .int .i64 (loopC a b h)]) ∧ OwnI1 w.heap.size w' u (loopX a b h) ∧ Below w.heap.size w w' := by
  have HR1 := Lib.hid hr1
  have HR2 := Lib.hid hr2
  clear hr1 hr2
  cases hc : (brC a b h != 0)
  · have hc0 : brC a b h = 0 := by simpa using hc
    have HX : Hid (loopX a b h = if (loopL a b h).length > 12 then [] else loopL a b h) := by unfold Hid loopX; rw [if_pos hc0]
    have HZ : Hid (loopC a b h = if (loopL a b h).length > 12 then 5 else 0) := by unfold Hid loopC; rw [if_pos hc0]
    have HL : Hid (loopL a b h = a ++ bridgeL a b h ++ b ++ bridgeL b a h) := rfl
    have HC := Lib.hid hc0
    have HS := Lib.hid (brC_swap hc0)
    obtain ⟨⟨hva, hvb⟩, -⟩ := brC_ok hc0
    have hla := (validP_iff.1 hva).1.2
    have hlb := (validP_iff.1 hvb).1.2
    have hl1 := bridgeL_len hc0
    have hl2 := bridgeL_len HS.out
    have hane : a ≠ [] := fun e => by rw [e] at hla; simp at hla
    clear hc0 hva hvb
    go_enter Try.func23, Try.ntmps23
    go_wp2_with fail
    refine (c_impl_bridgeCode a b h _ _ _ HR1.out HR2.out).mono ?_; rintro e w1 ⟨rfl, hb1⟩
    go_wp2_with fail
    refine (c_impl_copyNumbers a _ _ (HR1.out.below hb1) (by omega)).mono ?_; rintro e w2 ⟨c, rfl, hcown, hb2⟩
    have R1 := Lib.hid ((HR1.out.below hb1).below hb2)
    have R2 := Lib.hid ((HR2.out.below hb1).below hb2)
    go_wp2_with fail
    refine (c_impl_bridge a b h _ _ _ R1.out R2.out HC.out).mono ?_; rintro e w3 ⟨u, rfl, hu, hb3⟩
    have hcown3 := hcown.below hb3
    obtain ⟨gc, cc, rfl, _⟩ := hcown3.some_of hane
    have hlt3 := World.ownsRow.lt hcown3
    have hs1 := hb1.size
    have hs2 := hb2.size
    have hs3 := hb3.size
    have B3 : Below w.heap.size w w3 := (hb1.tr hb2).tr hb3
    have hru := hu.rd
    have hout1 : a ++ bridgeL a b h ≠ [] := by simp [hane]
    have hout2 : a ++ bridgeL a b h ++ b ≠ [] := by simp [hane]
    go_wp2_with (at_builtin; refine stop_of ?_)
    unfold Stopped
    refine push_ints rfl _ _ _ _ rfl Try.underlying24 infoI w1.heap.size _ _ a (bridgeL a b h) w3 rfl rfl (by exact hcown3) ⟨_, _, _, rfl⟩ (by exact hru) (by omega) (by omega) ?_; intro v4 w4 ho4 hg4 hat4 hs4; have hw4 : ∃ ad n cap, v4 = Value.slice (some ad) n cap := (by obtain ⟨g4, c4, he4, _⟩ := ho4.some_of hout1; exact ⟨_, _, _, he4⟩)
    have B4 : Below w.heap.size w w4 := B3.grown hg4 (by omega) (fun k hk => by have := (hlt3 k hk).1; omega)
    go_wp2_with (at_builtin; refine stop_of ?_)
    unfold Stopped
    refine push_ints rfl _ _ _ _ rfl Try.underlying24 infoI w1.heap.size v4 v2 (a ++ bridgeL a b h) b w4 rfl rfl (by exact ho4) hw4 (by exact HR2.out.below B4) (by rw [List.length_append]; omega) (by omega) ?_; intro v5 w5 ho5 hg5 hat5 hs5
    have hlt4 := World.ownsRow.lt ho4
    have B5 : Below w.heap.size w w5 := B4.grown hg5 (by omega) (fun k hk => by have := (hlt4 k hk).1; omega)
    go_wp2_with fail
    refine (c_impl_bridge b a h _ _ _ (HR2.out.below B5) (HR1.out.below B5) HS.out).mono ?_; rintro e w6 ⟨u2, rfl, hu2, hb6⟩
    have ho6 := ho5.below hb6
    have hw5 : ∃ ad n cap, v5 = Value.slice (some ad) n cap := by obtain ⟨g6, c6, he6, _⟩ := ho6.some_of hout2; exact ⟨_, _, _, he6⟩
    have hs6 := hb6.size
    go_wp2_with (at_builtin; refine stop_of ?_)
    unfold Stopped
    refine push_ints rfl _ _ _ _ rfl Try.underlying24 infoI w1.heap.size v5 u2 (a ++ bridgeL a b h ++ b) (bridgeL b a h) w6 rfl rfl (by exact ho6) hw5 (by exact hu2.rd) (by rw [List.length_append, List.length_append]; omega) (by omega) ?_; intro v7 w7 ho7 hg7 hat7 hs7
    have hlt6 := World.ownsRow.lt ho6
    have B7 : Below w.heap.size w w7 := (B5.tr hb6).grown hg7 (by omega) (fun k hk => by have := (hlt6 k hk).1; omega)
    rw [← HL.out] at ho7
    have hLl : (loopL a b h).length ≤ 4000 := by rw [HL.out, List.length_append, List.length_append, List.length_append]; omega
    obtain ⟨g7, c7, rfl, hc7⟩ := ho7.some_of (by rw [HL.out]; simp [hane])
    by_cases hbig : (loopL a b h).length > 12
    · have hbi : ((loopL a b h).length : Int) > 12 := by omega
      rw [if_pos hbig] at HX HZ
      go_wp2
      go_ret2
      exact ⟨_, by rw [HZ.out]; rfl, by rw [HX.out]; exact OwnI.nil _ rfl, B7⟩
    · have hbi : ¬ ((loopL a b h).length : Int) > 12 := by omega
      rw [if_neg hbig] at HX HZ
      go_wp2
      go_ret2
      exact ⟨_, by rw [HZ.out]; rfl, by rw [HX.out]; exact ho7.base hs1, B7⟩
  · have hcn : ¬ brC a b h = 0 := by simpa using hc
    have HX : Hid (loopX a b h = []) := by unfold Hid loopX; rw [if_neg hcn]
    have HZ : Hid (loopC a b h = brC a b h) := by unfold Hid loopC; rw [if_neg hcn]
    clear hcn
    go_enter Try.func23, Try.ntmps23
    go_wp2_with fail
    refine (c_impl_bridgeCode a b h _ _ _ HR1.out HR2.out).mono ?_; rintro e w1 ⟨rfl, hb1⟩
    go_wp2
    go_ret2
    exact ⟨_, by rw [HZ.out]; rfl, by rw [HX.out]; exact OwnI.nil _ rfl, hb1⟩
end Go.Proofs.Ytpcaaohdlcoplaa
